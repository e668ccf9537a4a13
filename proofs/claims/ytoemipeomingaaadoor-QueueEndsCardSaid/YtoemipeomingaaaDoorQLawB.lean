/- The laws QueueOrder, QueueEnds: what their code answers. -/
import Derived.Test.YtoemipeomingaaaDoorQLawA
namespace Go.Proofs.YtoemipeomingaaaDoor
open Go Go.V

def LBI (f : Bool → Int → Heap → Prop) : List Value → Heap → Prop
  | [.bool b, .int .i64 i], H => f b i H
  | _, _ => False
def LBIM (f : Int → Nat) : List Value → Heap → Nat
  | [.bool _, .int .i64 i], _ => f i
  | _, _ => 0
section
variable {an ao : Option Addr} {nn no cn co : Nat} {needs own : List Rec} {H0 : Heap}
theorem ready_le (w h : List Rec) : (readyS w h).length ≤ 2 * w.length := by
  have := setS_len w
  unfold readyS
  rw [List.length_append, List.length_reverse]
  have := List.length_filter_le (fun r => !r.del && canS r (setS h)) (setS w)
  have := List.length_filter_le (fun r => r.del && canS r (setS h)) (setS w)
  omega
theorem QueueOrder_con (t1 : Texts needs) (t2 : Texts own) (h1 : RawR H0 an nn needs) (h2 : RawR H0 ao no own) :
    CallsH Tryd.prog 7 ⟨[.slice an nn cn, .slice ao no co]⟩ H0 fun r H1 => r = .bool true ∧ Ext H0 H1 := by
  have l1 := few_len needs
  have l2 := few_len own
  refine caravanlaw20_QueueOrder.ok ?_
  refine (few_con' t1 h1).mono ?_
  rintro _ H1 ⟨a1, c1, rfl, s1, e1⟩
  refine ⟨_, _, _, rfl, ?_⟩
  refine (few_con' t2 (h2.ext e1)).mono ?_
  rintro _ H2 ⟨a2, c2, rfl, s2, e2⟩
  refine ⟨_, _, _, rfl, ?_⟩
  refine (Ready_con (few_short _) (few_short _) (by omega) (by omega) H2 (s1.ext e2) s2).mono ?_
  rintro _ H3 ⟨a3, c3, rfl, s3, e3⟩
  refine ⟨_, _, _, rfl, ?_⟩
  have e03 := (e1.trans e2).trans e3
  refine (few_con' t1 (h1.ext e03)).mono ?_
  rintro _ H4 ⟨a4, c4, rfl, s4, e4⟩
  refine ⟨_, _, _, rfl, ?_⟩
  refine (Aim_con (few_short _) (own := []) (fun r hr => by cases hr) (by omega) (by omega) H4 s4 (SlR.of_nil H4 none)).mono ?_
  rintro _ H5 ⟨a5, c5, rfl, s5, e5⟩
  refine ⟨_, _, _, rfl, ?_⟩
  rw [aimS_none_own] at s5 ⊢
  have s3 := s3.ext (e4.trans e5)
  have hsub : ∀ r ∈ readyS (fewL needs) (fewL own), r ∈ setS (fewL needs) := fun r hr => (ready_mem.1 hr).1
  have hord := ready_order (fewL needs) (fewL own)
  have hrl := ready_le (fewL needs) (fewL own)
  have hwl := setS_len (fewL needs)
  have hw1 := setS_once (fewL needs)
  have hws := setS_short (fewL needs)
  generalize readyS (fewL needs) (fewL own) = L at s3 hsub hord hrl ⊢
  generalize setS (fewL needs) = W at s5 hsub hwl hw1 hws ⊢
  refine ⟨LI fun i H => ∃ k : Nat, i = k ∧ k ≤ L.length ∧ Ext H5 H, LM fun i => ((L.length : Int) - i).toNat, ⟨⟨_, rfl⟩, 0, rfl, by omega, Ext.refl _⟩, ?_⟩
  rintro i H6 ⟨k, rfl, hk, e6⟩
  refine ⟨fun h => ?_, fun _ => ?_⟩
  · have hk' : k < L.length := by have := of_decide_eq_true h; omega
    obtain ⟨ad, ha, hrd⟩ := s3.2 (by omega)
    have hrk := hrd k _ (List.getElem?_eq_getElem hk')
    have hkW := hsub _ (List.getElem_mem hk')
    have hw : IntKind.wrap .i64 ((k : Int) + 1) = ((k + 1 : Nat) : Int) := by rw [wrap_i64 (by omega)]; omega
    rw [hw]
    have hdec : ((L.length : Int) - ((k + 1 : Nat) : Int)).toNat < ((L.length : Int) - (k : Int)).toNat := by omega
    refine ⟨LBI fun b i H => ∃ q : Nat, i = q ∧ q ≤ W.length ∧ Ext H5 H ∧ b = (W.take q).any fun x => x.path == L[k].path, LBIM fun i => ((W.length : Int) - i).toNat, ⟨⟨_, rfl⟩, ⟨_, rfl⟩, 0, rfl, by omega, e6, rfl⟩, ?_⟩
    rintro b i H7 ⟨q, rfl, hq, e7, rfl⟩
    refine ⟨fun h7 => ?_, fun h7 => ?_⟩
    · have hq' : q < W.length := by have := of_decide_eq_true h7; omega
      obtain ⟨ad2, ha2, hrd2⟩ := s5.2 (by omega)
      have hrq := hrd2 q _ (List.getElem?_eq_getElem hq')
      have hwq : IntKind.wrap .i64 ((q : Int) + 1) = ((q + 1 : Nat) : Int) := by rw [wrap_i64 (by omega)]; omega
      have hstep : ((W.take (q + 1)).any fun x => x.path == L[k].path) = (((W.take q).any fun x => x.path == L[k].path) || (W[q].path == L[k].path)) := by
        rw [List.take_succ_eq_append_getElem hq', List.any_append]
        simp
      have hdq : ((W.length : Int) - ((q + 1 : Nat) : Int)).toNat < ((W.length : Int) - (q : Int)).toNat := by omega
      rw [hwq]
      refine ⟨ad2, ⟨ha2, by omega, by omega⟩, W[q].path, by rw [toNat_cast]; exact (hrq.ext e7).rcell (by omega) (rc_path _), ad, ⟨ha, by omega, by omega⟩, L[k].path, by rw [toNat_cast]; exact (hrk.ext e7).rcell (by omega) (rc_path _), fun h8 => ?_, fun h8 => ?_⟩
      · have he : W[q] = L[k] := once_eq hw1 (List.getElem_mem hq') hkW (by simpa using h8)
        refine ⟨ad2, ⟨ha2, by omega, by omega⟩, rc W[q], by rw [toNat_cast]; exact hrq.ext e7, ad, ⟨ha, by omega, by omega⟩, rc W[q], by rw [toNat_cast, he]; exact hrk.ext e7, ?_⟩
        refine (Same_con W[q] H7).mono ?_
        rintro _ H8 ⟨rfl, e8⟩
        exact ⟨_, rfl, e8, ⟨_, rfl⟩, ⟨_, rfl⟩, ⟨q + 1, rfl, by omega, e7.trans e8, by rw [hstep, h8, Bool.or_true]⟩, hdq⟩
      · exact ⟨⟨_, rfl⟩, ⟨_, rfl⟩, ⟨q + 1, rfl, by omega, e7, by rw [hstep, h8, Bool.or_false]⟩, hdq⟩
    · have : q = W.length := by have := of_decide_eq_false h7; omega
      subst this
      rw [List.take_length]
      have hany : (W.any fun x => x.path == L[k].path) = true := List.any_eq_true.2 ⟨_, hkW, by simp⟩
      rw [hany]
      refine ⟨fun h => (by cases h), fun _ => ⟨fun _ => ⟨⟨_, rfl⟩, ⟨k + 1, rfl, by omega, e7⟩, hdec⟩, fun h0 => ?_⟩⟩
      have hk0 : k ≠ 0 := fun e => by subst e; simp at h0
      obtain ⟨p, rfl⟩ : ∃ p, k = p + 1 := ⟨k - 1, by omega⟩
      have hp' : p < L.length := by omega
      have hrp := hrd p _ (List.getElem?_eq_getElem hp')
      have hwp : IntKind.wrap .i64 (((p + 1 : Nat) : Int) - 1) = (p : Int) := by rw [wrap_i64 (by omega)]; omega
      rw [hwp]
      have hio : InOrder L[p] L[p + 1] := List.pairwise_iff_getElem.1 hord p (p + 1) hp' hk' (by omega)
      refine ⟨ad, ⟨ha, by omega, by omega⟩, L[p].path, by rw [toNat_cast]; exact (hrp.ext e7).rcell (by omega) (rc_path _), ad, ⟨ha, by omega, by omega⟩, L[p + 1].path, by rw [toNat_cast]; exact (hrk.ext e7).rcell (by omega) (rc_path _), ?_⟩
      have hps := hws _ (hsub _ (List.getElem_mem hp'))
      have hks := hws _ hkW
      refine (Cmp_con L[p].path L[p + 1].path hps hks H7).mono ?_
      rintro _ H8 ⟨rfl, rfl⟩
      have hd1 : ∀ {c1 c2 : Prop}, c1 → c2 → True := fun _ _ => trivial
      refine ⟨_, rfl, Ext.refl _, ad, ⟨ha, by omega, by omega⟩, L[p].del, by rw [toNat_cast]; exact (hrp.ext e7).rcell (by omega) (rc_del _), ad, fun _ => ⟨ha, by omega, by omega⟩, L[p + 1].del, fun _ => by rw [toNat_cast]; exact (hrk.ext e7).rcell (by omega) (rc_del _),
        ad, fun _ => ⟨ha, by omega, by omega⟩, L[p].del, fun _ => by rw [toNat_cast]; exact (hrp.ext e7).rcell (by omega) (rc_del _), ad, fun _ _ => ⟨ha, by omega, by omega⟩, L[p + 1].del, fun _ _ => by rw [toNat_cast]; exact (hrk.ext e7).rcell (by omega) (rc_del _), fun hbad => ?_, fun _ => ⟨⟨_, rfl⟩, ⟨p + 1 + 1, rfl, by omega, e7⟩, hdec⟩⟩
      exfalso
      revert hbad
      unfold InOrder at hio
      cases hdp : L[p].del with
      | true =>
        rw [hdp, if_pos (by rfl)] at hio
        rw [hio.1, decide_eq_false (show ¬ cmpB L[p].path L[p + 1].path ≤ 0 by omega)]
        intro h
        cases h
      | false =>
        rw [hdp, if_neg (by simp)] at hio
        cases hdk : L[p + 1].del with
        | true =>
          intro h
          cases h
        | false =>
          have := hio hdk
          rw [decide_eq_false (show ¬ cmpB L[p].path L[p + 1].path ≥ 0 by omega)]
          intro h
          cases h
  · refine (works_con H6).mono ?_
    rintro _ H7 ⟨rfl, e7⟩
    exact ⟨_, rfl, rfl, (((e03.trans e4).trans e5).trans e6).trans e7⟩
theorem QueueEnds_con {ap : Option Addr} {np cp : Nat} (hp : SlU H0 ap np) (t1 : Texts needs) (t2 : Texts own) (h1 : RawR H0 an nn needs) (h2 : RawR H0 ao no own) :
    CallsH Tryd.prog 8 ⟨[.slice an nn cn, .slice ao no co, .slice ap np cp]⟩ H0 fun r H1 => r = .bool true ∧ Ext H0 H1 := by
  have l1 := few_len needs
  have l2 := few_len own
  refine caravanlaw20_QueueEnds.ok ?_
  refine (few_con' t1 h1).mono ?_
  rintro _ H1 ⟨a1, c1, rfl, s1, e1⟩
  refine ⟨_, _, _, rfl, ?_⟩
  refine (Aim_con (few_short _) (own := []) (fun r hr => by cases hr) (by omega) (by omega) H1 s1 (SlR.of_nil H1 none)).mono ?_
  rintro _ H2 ⟨a2, c2, rfl, s2, e2⟩
  refine ⟨_, _, _, rfl, ?_⟩
  refine (few_con' t2 (h2.ext (e1.trans e2))).mono ?_
  rintro _ H3 ⟨a3, c3, rfl, s3, e3⟩
  refine ⟨_, _, _, rfl, ?_⟩
  refine (Aim_con (needs := []) (fun r hr => by cases hr) (few_short _) (by omega) (by omega) H3 (SlR.of_nil H3 none) s3).mono ?_
  rintro _ H4 ⟨a4, c4, rfl, s4, e4⟩
  refine ⟨_, _, _, rfl, ?_⟩
  have hwl := setS_len (fewL needs)
  have hol := setS_len (fewL own)
  have hw1 := setS_once (fewL needs)
  have hwo := setS_ok (fewL needs)
  have ho1 := setS_once (fewL own)
  have hoo := setS_ok (fewL own)
  have s2 := s2.ext (e3.trans e4)
  have e04 := ((e1.trans e2).trans e3).trans e4
  rw [aimS_none_own] at s2 ⊢
  rw [aimS_none_want] at s4 ⊢
  generalize setS (fewL needs) = W at s2 hwl hw1 hwo ⊢
  generalize setS (fewL own) = O at s4 hol ho1 hoo ⊢
  refine (Blocked_con (okL_short hwo) (okL_short hoo) (by omega) (by omega) H4 s2 s4).mono ?_
  rintro _ H5 ⟨a5, c5, rfl, s5, e5⟩
  refine ⟨_, _, _, rfl, fun _ => ?_, fun hbl => ?_⟩
  · refine (works_con H5).mono ?_
    rintro _ H6 ⟨rfl, e6⟩
    exact ⟨_, rfl, rfl, (e04.trans e5).trans e6⟩
  have hfree : Free (setS (O ++ W)) := by
    have h0 : (blockedS W O).length = 0 := by have := of_decide_eq_false hbl; omega
    unfold blockedS at h0
    rw [List.length_map] at h0
    exact free_of (List.eq_nil_of_length_eq_zero h0)
  refine (Aim_con (okL_short hwo) (okL_short hoo) (by omega) (by omega) H5 (s2.ext e5) (s4.ext e5)).mono ?_
  rintro _ H6 ⟨a6, c6, rfl, s6, e6⟩
  refine ⟨_, _, _, rfl, ?_⟩
  have hA : aimS W O = setS (O ++ W) := rfl
  rw [hA] at s6 ⊢
  have hAl : (setS (O ++ W)).length ≤ 80 := by
    have := setS_len (O ++ W)
    rw [List.length_append] at this
    omega
  refine ⟨LSSI3 fun aw nw cw ah nh ch i H => ∃ (k : Nat) (w h : List Rec), i = k ∧ k ≤ W.length ∧ Ext H6 H ∧ SlR H aw nw w ∧ SlR H ah nh h ∧ nw + k = W.length ∧ nh ≤ 40 + k ∧ okL w ∧ Once w ∧ okL h ∧ Once h ∧ setS (h ++ w) = setS (O ++ W), LSSIM2 fun i => ((W.length : Int) - i).toNat,
    ⟨⟨_, _, _, rfl⟩, ⟨_, _, _, rfl⟩, ⟨_, rfl⟩, 0, W, O, rfl, by omega, Ext.refl _, s2.ext (e5.trans e6), s4.ext (e5.trans e6), by omega, by omega, hwo, hw1, hoo, ho1, rfl⟩, ?_⟩
  have e06 := (e04.trans e5).trans e6
  rintro aw nw cw ah nh ch i H7 ⟨k, w, hv, rfl, hk, e7, sw, sh, hnw, hnh, hw, hw1, hh, hh1, haim⟩
  have hlv : hv.length = nh := sh.1
  have hlw : w.length = nw := sw.1
  refine ⟨fun h7 => ?_, fun h7 => ?_⟩
  · have hkW : k < W.length := by have := of_decide_eq_true h7; omega
    have hpos : 0 < (readyS w hv).length := by
      rcases Nat.eq_zero_or_pos (readyS w hv).length with h0 | h0
      · exfalso
        refine ready_some hw1 hw hh1 hh (by rw [haim]; exact hfree) (fun e => ?_) (List.eq_nil_of_length_eq_zero h0)
        rw [e] at hlw
        simp at hlw
        omega
      · exact h0
    refine (Ready_con (okL_short hw) (okL_short hh) (by omega) (by omega) H7 sw sh).mono ?_
    rintro _ H8 ⟨a8, c8, rfl, s8, e8⟩
    refine ⟨_, _, _, rfl, fun h8 => ?_, fun h8 => ?_⟩
    · have : ((readyS w hv).length : Int) = 0 := by simpa using h8
      omega
    refine (pick_con ap np cp k _ hpos H8 (hp.ext ((e06.trans e7).trans e8))).mono ?_
    rintro _ H9 ⟨⟨j, rfl, hj⟩, rfl⟩
    obtain ⟨ad, ha, hrd⟩ := s8.2 hpos
    have hr := hrd j _ (List.getElem?_eq_getElem hj)
    have hmem := List.getElem_mem hj
    generalize (readyS w hv)[j] = r at hr hmem
    refine ⟨_, rfl, ad, ⟨ha, by omega, by omega⟩, _, by rw [toNat_cast]; exact hr, ?_⟩
    refine st_rec _ fun g10 H10 hg10 e10 b10 => ?_
    refine st_rd b10 (rc_size _) ?_
    refine (put_con hv r ah nh ch H10 (sh.ext (e8.trans e10)) (by omega)).mono ?_
    rintro _ H11 ⟨a11, c11, rfl, s11, e11⟩
    refine ⟨_, _, _, rfl, r.path, (b10.ext e11).rcell (rc_path _), ?_⟩
    refine (without_con w r.path aw nw cw H11 (sw.ext ((e8.trans e10).trans e11)) (by omega)).mono ?_
    rintro _ H12 ⟨a12, c12, rfl, s12, e12⟩
    refine ⟨_, _, _, rfl, ?_⟩
    have hrw : r ∈ w := (mem_set hw1 hw).1 (ready_mem.1 hmem).1
    have hrok : okR r = true := hw r hrw
    have hpl := put_len hv r
    have hwl2 := without_len hw1 hrw
    refine ⟨fun h13 => ?_, fun _ => ⟨⟨_, _, _, rfl⟩, ⟨_, _, _, rfl⟩, ⟨_, rfl⟩, ⟨k + 1, withoutS w r.path, putS hv r, ?_, by omega, (((e7.trans e8).trans e10).trans e11).trans e12, s12, s11.ext e12, by omega, by omega, without_ok _ hw, without_once _ hw1, put_ok hh hrok, put_once r hh1, ?_⟩, ?_⟩⟩
    · exfalso
      rw [show IntKind.wrap .i64 (((W.length : Nat) : Int) - (k : Int)) = ((W.length : Nat) : Int) - (k : Int) from wrap_i64 (by omega),
        show IntKind.wrap .i64 (((W.length : Nat) : Int) - (k : Int) - 1) = ((W.length : Nat) : Int) - (k : Int) - 1 from wrap_i64 (by omega)] at h13
      have : (((withoutS w r.path).length : Nat) : Int) = ((W.length : Nat) : Int) - (k : Int) - 1 := by omega
      rw [this] at h13
      simp at h13
    · rw [wrap_i64 (by omega)]; omega
    · rw [aim_step hw1 hw hh1 hh hrw]
      exact haim
    · show ((W.length : Int) - IntKind.wrap .i64 ((k : Int) + 1)).toNat < ((W.length : Int) - (k : Int)).toNat
      rw [wrap_i64 (by omega)]
      omega
  · have : k = W.length := by have := of_decide_eq_false h7; omega
    subst this
    have hn0 : nw = 0 := by omega
    subst hn0
    have hw0 : w = [] := List.eq_nil_of_length_eq_zero hlw
    subst hw0
    rw [List.append_nil] at haim
    refine (Aim_con (needs := []) (fun r hr => by cases hr) (okL_short hh) (by omega) (by omega) H7 (SlR.of_nil H7 none) sh).mono ?_
    rintro _ H8 ⟨a8, c8, rfl, s8, e8⟩
    rw [aimS_none_want, haim] at s8 ⊢
    refine ⟨_, _, _, rfl, fun h => by simp at h, fun _ => ?_⟩
    refine (Ready_con (needs := []) (fun r hr => by cases hr) (okL_short hh) (by omega) (by omega) H8 (sw.ext e8) (sh.ext e8)).mono ?_
    rintro _ H9 ⟨a9, c9, rfl, s9, e9⟩
    have hr0 : (readyS [] hv).length = 0 := rfl
    rw [hr0]
    refine ⟨_, _, _, rfl, fun h => by simp at h, fun _ => ?_⟩
    have s6 := s6.ext ((e7.trans e8).trans e9)
    have s8 := s8.ext e9
    generalize setS (O ++ W) = A at s6 s8 hAl ⊢
    refine ⟨LI fun i H => ∃ k : Nat, i = k ∧ k ≤ A.length ∧ Ext H9 H, LM fun i => ((A.length : Int) - i).toNat, ⟨⟨_, rfl⟩, 0, rfl, by omega, Ext.refl _⟩, ?_⟩
    rintro i H10 ⟨q, rfl, hq, e10⟩
    refine ⟨fun h10 => ?_, fun _ => ?_⟩
    · have hq' : q < A.length := by have := of_decide_eq_true h10; omega
      obtain ⟨ad, ha, hrd⟩ := s8.2 (by omega)
      obtain ⟨ad2, ha2, hrd2⟩ := s6.2 (by omega)
      refine ⟨ad, ⟨ha, by omega, by omega⟩, _, by rw [toNat_cast]; exact (hrd q _ (List.getElem?_eq_getElem hq')).ext e10, ad2, ⟨ha2, by omega, by omega⟩, _, by rw [toNat_cast]; exact (hrd2 q _ (List.getElem?_eq_getElem hq')).ext e10, ?_⟩
      refine (Same_con A[q] H10).mono ?_
      rintro _ H11 ⟨rfl, e11⟩
      refine ⟨_, rfl, e11, fun h => (by cases h), fun _ => ⟨⟨_, rfl⟩, ⟨q + 1, ?_, by omega, e10.trans e11⟩, ?_⟩⟩
      · rw [wrap_i64 (by omega)]; omega
      · show ((A.length : Int) - IntKind.wrap .i64 ((q : Int) + 1)).toNat < ((A.length : Int) - (q : Int)).toNat
        rw [wrap_i64 (by omega)]
        omega
    · refine (works_con H10).mono ?_
      rintro _ H11 ⟨rfl, e11⟩
      exact ⟨_, rfl, rfl, ((((e06.trans e7).trans e8).trans e9).trans e10).trans e11⟩
end
end Go.Proofs.YtoemipeomingaaaDoor
