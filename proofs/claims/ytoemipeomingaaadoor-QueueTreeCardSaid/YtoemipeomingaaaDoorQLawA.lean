/- The laws QueueReady, QueueBlocked, QueueTree: what their code answers. -/
import Derived.Test.YtoemipeomingaaaDoorQHelp
namespace Go.Proofs.YtoemipeomingaaaDoor
open Go Go.V

theorem few_short (l : List Rec) : Short (fewL l) := fun r hr => by
  unfold fewL at hr
  obtain ⟨x, _, rfl⟩ := List.mem_map.1 hr
  show (x.path.take 400).length ≤ _
  rw [List.length_take]
  omega
theorem few_len (l : List Rec) : (fewL l).length ≤ 40 := by
  unfold fewL
  rw [List.length_map, List.length_take]
  omega
def Texts (l : List Rec) : Prop := ∀ r ∈ l, r.path.length ≤ 9223372036854775807
theorem few_con' {l : List Rec} (hl : Texts l) {a : Option Addr} {n c : Nat} {H0 : Heap} (hs : RawR H0 a n l) :
    CallsH Tryd.prog 10 ⟨[.slice a n c]⟩ H0 fun r H1 => ∃ (a1 : Option Addr) (c1 : Nat), r = .slice a1 (fewL l).length c1 ∧ SlR H1 a1 (fewL l).length (fewL l) ∧ Ext H0 H1 := by
  refine (few_con l hl a n c H0 hs).mono ?_
  rintro _ H1 ⟨a1, c1, rfl, o1, e1⟩
  exact ⟨a1, c1, rfl, o1.slr', e1⟩
section
variable {an ao : Option Addr} {nn no cn co : Nat} {needs own : List Rec} {H0 : Heap}
theorem QueueReady_con (t1 : Texts needs) (t2 : Texts own) (h1 : RawR H0 an nn needs) (h2 : RawR H0 ao no own) :
    CallsH Tryd.prog 3 ⟨[.slice an nn cn, .slice ao no co]⟩ H0 fun r H1 => r = .bool true ∧ Ext H0 H1 := by
  have l1 := few_len needs
  have l2 := few_len own
  refine caravanlaw20_QueueReady.ok ?_
  refine (few_con' t1 h1).mono ?_
  rintro _ H1 ⟨a1, c1, rfl, s1, e1⟩
  refine ⟨_, _, _, rfl, ?_⟩
  refine (few_con' t2 (h2.ext e1)).mono ?_
  rintro _ H2 ⟨a2, c2, rfl, s2, e2⟩
  refine ⟨_, _, _, rfl, ?_⟩
  refine (Ready_con (few_short _) (few_short _) (by omega) (by omega) H2 (s1.ext e2) s2).mono ?_
  rintro _ H3 ⟨a3, c3, rfl, s3, e3⟩
  refine ⟨_, _, _, rfl, ?_⟩
  have e03 := (e1.trans e2).trans e3
  refine (few_con' t1 (h1.ext e03)).mono ?_
  rintro _ H4 ⟨a4, c4, rfl, s4, e4⟩
  refine ⟨_, _, _, rfl, ?_⟩
  refine (few_con' t2 (h2.ext (e03.trans e4))).mono ?_
  rintro _ H5 ⟨a5, c5, rfl, s5, e5⟩
  refine ⟨_, _, _, rfl, ?_⟩
  refine (rReady_con (few_short _) (few_short _) (by omega) (by omega) H5 (s4.ext e5) s5).mono ?_
  rintro _ H6 ⟨a6, c6, rfl, s6, e6⟩
  refine ⟨_, _, _, rfl, ?_⟩
  have hrl : (readyS (fewL needs) (fewL own)).length ≤ 80 := by
    have := setS_len (fewL needs)
    unfold readyS
    rw [List.length_append, List.length_reverse]
    have := List.length_filter_le (fun r => !r.del && canS r (setS (fewL own))) (setS (fewL needs))
    have := List.length_filter_le (fun r => r.del && canS r (setS (fewL own))) (setS (fewL needs))
    omega
  refine (List_con _ a3 a6 _ c3 c6 H6 (s3.ext ((e4.trans e5).trans e6)) s6 (by omega)).mono ?_
  rintro _ H7 ⟨rfl, e7⟩
  refine ⟨_, rfl, fun _ => ?_, fun h => by cases h⟩
  refine (works_con H7).mono ?_
  rintro _ H8 ⟨rfl, e8⟩
  exact ⟨_, rfl, rfl, ((((e03.trans e4).trans e5).trans e6).trans e7).trans e8⟩
theorem QueueBlocked_con (t1 : Texts needs) (t2 : Texts own) (h1 : RawR H0 an nn needs) (h2 : RawR H0 ao no own) :
    CallsH Tryd.prog 4 ⟨[.slice an nn cn, .slice ao no co]⟩ H0 fun r H1 => r = .bool true ∧ Ext H0 H1 := by
  have l1 := few_len needs
  have l2 := few_len own
  have hal : (aimS (fewL needs) (fewL own)).length ≤ 80 := by
    have : (aimS (fewL needs) (fewL own)).length ≤ (fewL own ++ fewL needs).length := setS_len _
    rw [List.length_append] at this
    omega
  have hbl : (blockedS (fewL needs) (fewL own)).length ≤ 80 := by
    unfold blockedS stuckS
    rw [List.length_map]
    exact Nat.le_trans (List.length_filter_le _ _) hal
  refine caravanlaw20_QueueBlocked.ok ?_
  refine (few_con' t1 h1).mono ?_
  rintro _ H1 ⟨a1, c1, rfl, s1, e1⟩
  refine ⟨_, _, _, rfl, ?_⟩
  refine (few_con' t2 (h2.ext e1)).mono ?_
  rintro _ H2 ⟨a2, c2, rfl, s2, e2⟩
  refine ⟨_, _, _, rfl, ?_⟩
  refine (Blocked_con (few_short _) (few_short _) (by omega) (by omega) H2 (s1.ext e2) s2).mono ?_
  rintro _ H3 ⟨a3, c3, rfl, s3, e3⟩
  refine ⟨_, _, _, rfl, ?_⟩
  have e03 := (e1.trans e2).trans e3
  refine (few_con' t1 (h1.ext e03)).mono ?_
  rintro _ H4 ⟨a4, c4, rfl, s4, e4⟩
  refine ⟨_, _, _, rfl, ?_⟩
  refine (few_con' t2 (h2.ext (e03.trans e4))).mono ?_
  rintro _ H5 ⟨a5, c5, rfl, s5, e5⟩
  refine ⟨_, _, _, rfl, ?_⟩
  refine (rBlocked_con (few_short _) (few_short _) (by omega) (by omega) H5 (s4.ext e5) s5).mono ?_
  rintro _ H6 ⟨a6, c6, rfl, s6, e6⟩
  refine ⟨_, _, _, rfl, ?_⟩
  have e06 := ((e03.trans e4).trans e5).trans e6
  refine (few_con' t1 (h1.ext e06)).mono ?_
  rintro _ H7 ⟨a7, c7, rfl, s7, e7⟩
  refine ⟨_, _, _, rfl, ?_⟩
  refine (few_con' t2 (h2.ext (e06.trans e7))).mono ?_
  rintro _ H8 ⟨a8, c8, rfl, s8, e8⟩
  refine ⟨_, _, _, rfl, ?_⟩
  refine (Aim_con (few_short _) (few_short _) (by omega) (by omega) H8 (s7.ext e8) s8).mono ?_
  rintro _ H9 ⟨a9, c9, rfl, s9, e9⟩
  refine ⟨_, _, _, rfl, ?_⟩
  have e09 := ((e06.trans e7).trans e8).trans e9
  refine (few_con' t1 (h1.ext e09)).mono ?_
  rintro _ H10 ⟨a10, c10, rfl, s10, e10⟩
  refine ⟨_, _, _, rfl, ?_⟩
  refine (few_con' t2 (h2.ext (e09.trans e10))).mono ?_
  rintro _ H11 ⟨a11, c11, rfl, s11, e11⟩
  refine ⟨_, _, _, rfl, ?_⟩
  refine (rAim_con (few_short _) (few_short _) (by omega) (by omega) H11 (s10.ext e11) s11).mono ?_
  rintro _ H12 ⟨a12, c12, rfl, s12, e12⟩
  refine ⟨_, _, _, rfl, ?_⟩
  have e612 := ((((e7.trans e8).trans e9).trans e10).trans e11).trans e12
  refine (Texts_con _ a3 a6 _ c3 c6 H12 (s3.ext (((e4.trans e5).trans e6).trans e612)) (s6.ext e612) (by omega)).mono ?_
  rintro _ H13 ⟨rfl, rfl⟩
  refine ⟨_, rfl, fun _ => ?_, fun h => by cases h⟩
  refine (List_con _ a9 a12 _ c9 c12 H13 (s9.ext ((e10.trans e11).trans e12)) s12 (by omega)).mono ?_
  rintro _ H14 ⟨rfl, e14⟩
  refine ⟨_, rfl, fun _ => ?_, fun h => by cases h⟩
  refine (works_con H14).mono ?_
  rintro _ H15 ⟨rfl, e15⟩
  exact ⟨_, rfl, rfl, ((((e09.trans e10).trans e11).trans e12).trans e14).trans e15⟩
/-! ### The tree stays -/
def LSSI3 (f : Option Addr → Nat → Nat → Option Addr → Nat → Nat → Int → Heap → Prop) : List Value → Heap → Prop
  | [.slice a n c, .slice a' n' c', .int .i64 i], H => f a n c a' n' c' i H
  | _, _ => False
theorem okL_short {l : List Rec} (h : okL l) : Short l := fun r hr => by
  have := mayB_len (okR_may (h r hr))
  omega
theorem QueueTree_con {ap : Option Addr} {np cp : Nat} (hp : SlU H0 ap np) (t1 : Texts needs) (t2 : Texts own) (h1 : RawR H0 an nn needs) (h2 : RawR H0 ao no own) :
    CallsH Tryd.prog 6 ⟨[.slice an nn cn, .slice ao no co, .slice ap np cp]⟩ H0 fun r H1 => r = .bool true ∧ Ext H0 H1 := by
  have l1 := few_len needs
  have l2 := few_len own
  refine caravanlaw20_QueueTree.ok ?_
  refine (few_con' t1 h1).mono ?_
  rintro _ H1 ⟨a1, c1, rfl, s1, e1⟩
  refine ⟨_, _, _, rfl, ?_⟩
  refine (Aim_con (few_short _) (own := []) (fun r hr => by cases hr) (by omega) (by omega) H1 s1 (SlR.of_nil H1 none)).mono ?_
  rintro _ H2 ⟨a2, c2, rfl, s2, e2⟩
  refine ⟨_, _, _, rfl, ?_⟩
  refine (few_con' t2 (h2.ext (e1.trans e2))).mono ?_
  rintro _ H3 ⟨a3, c3, rfl, s3, e3⟩
  refine ⟨_, _, _, rfl, ?_⟩
  refine (Aim_con (needs := []) (fun r hr => by cases hr) (few_short _) (by omega) (by omega) H3 (SlR.of_nil H3 none) s3).mono ?_
  rintro _ H4 ⟨a4, c4, rfl, s4, e4⟩
  refine ⟨_, _, _, rfl, ?_⟩
  have hwl := setS_len (fewL needs)
  have hol := setS_len (fewL own)
  have hw1 := setS_once (fewL needs)
  have hwo := setS_ok (fewL needs)
  have ho1 := setS_once (fewL own)
  have hoo := setS_ok (fewL own)
  have s2 := s2.ext (e3.trans e4)
  have e04 := ((e1.trans e2).trans e3).trans e4
  rw [aimS_none_own] at s2 ⊢
  rw [aimS_none_want] at s4 ⊢
  generalize setS (fewL needs) = W at s2 hwl hw1 hwo ⊢
  generalize setS (fewL own) = O at s4 hol ho1 hoo ⊢
  refine (tree_con O (okL_short hoo) a4 _ c4 H4 s4 (by omega)).mono ?_
  rintro _ H5 ⟨rfl, e5⟩
  refine ⟨_, rfl, fun _ => ?_, fun h => ?_⟩
  · refine (works_con H5).mono ?_
    rintro _ H6 ⟨rfl, e6⟩
    exact ⟨_, rfl, rfl, (e04.trans e5).trans e6⟩
  · have ht : TreeP O := treeB_iff.1 (by simpa using h)
    refine ⟨LSSI3 fun aw nw cw ah nh ch i H => ∃ (k : Nat) (w h : List Rec), i = k ∧ k ≤ 30 ∧ Ext H0 H ∧ SlR H aw nw w ∧ SlR H ah nh h ∧ nw ≤ 40 ∧ nh ≤ 40 + k ∧ okL w ∧ Once w ∧ okL h ∧ Once h ∧ TreeP h, LSSIM2 fun i => (30 - i).toNat,
      ⟨⟨_, _, _, rfl⟩, ⟨_, _, _, rfl⟩, ⟨_, rfl⟩, 0, W, O, rfl, by omega, e04.trans e5, s2.ext e5, s4.ext e5, by omega, by omega, hwo, hw1, hoo, ho1, ht⟩, ?_⟩
    rintro aw nw cw ah nh ch i H7 ⟨k, w, hv, rfl, hk, e7, sw, sh, hnw, hnh, hw, hw1, hh, hh1, htr⟩
    have wfin : ∀ H, Ext H0 H → CallsH Tryd.prog 13 ⟨[]⟩ H fun r H6 => ∃ b : Bool, r = .bool b ∧ Value.bool b = .bool true ∧ Ext H0 H6 := fun H e => by
      refine (works_con H).mono ?_
      rintro _ H6 ⟨rfl, e6⟩
      exact ⟨_, rfl, rfl, e.trans e6⟩
    refine ⟨fun h7 => ?_, fun _ => wfin H7 e7⟩
    have hk30 : k < np ∧ k < 30 := by
      cases h1 : decide ((k : Int) < ((np : Nat) : Int)) with
      | false => rw [h1] at h7; cases h7
      | true =>
        rw [h1] at h7
        have := of_decide_eq_true h1
        have := of_decide_eq_true h7
        omega
    refine (Ready_con (okL_short hw) (okL_short hh) (by omega) (by omega) H7 sw sh).mono ?_
    rintro _ H8 ⟨a8, c8, rfl, s8, e8⟩
    refine ⟨_, _, _, rfl, fun _ => wfin H8 (e7.trans e8), fun h8 => ?_⟩
    have hpos : 0 < (readyS w hv).length := by
      rcases Nat.eq_zero_or_pos (readyS w hv).length with h0 | h0
      · rw [h0] at h8; simp at h8
      · exact h0
    refine (pick_con ap np cp k _ hpos H8 (hp.ext (e7.trans e8))).mono ?_
    rintro _ H9 ⟨⟨j, rfl, hj⟩, rfl⟩
    obtain ⟨ad, ha, hrd⟩ := s8.2 hpos
    have hr := hrd j _ (List.getElem?_eq_getElem hj)
    have hmem := List.getElem_mem hj
    generalize (readyS w hv)[j] = r at hr hmem
    refine ⟨_, rfl, ad, ⟨ha, by omega, by omega⟩, _, by rw [toNat_cast]; exact hr, ?_⟩
    refine st_rec _ fun g10 H10 hg10 e10 b10 => ?_
    refine st_rd b10 (rc_size _) ?_
    refine (put_con hv r ah nh ch H10 (sh.ext (e8.trans e10)) (by omega)).mono ?_
    rintro _ H11 ⟨a11, c11, rfl, s11, e11⟩
    refine ⟨_, _, _, rfl, r.path, (b10.ext e11).rcell (rc_path _), ?_⟩
    refine (without_con w r.path aw nw cw H11 (sw.ext ((e8.trans e10).trans e11)) (by omega)).mono ?_
    rintro _ H12 ⟨a12, c12, rfl, s12, e12⟩
    refine ⟨_, _, _, rfl, ?_⟩
    have hrok : okR r = true := setS_ok w r (ready_mem.1 hmem).1
    have hpok := put_ok hh hrok
    have hpl := put_len hv r
    have hwl2 := without_le w r.path
    have hlv : hv.length = nh := sh.1
    have hlw : w.length = nw := sw.1
    have htp := tree_put hh hh1 htr hmem
    refine (tree_con _ (okL_short hpok) a11 _ c11 H12 (s11.ext e12) (by omega)).mono ?_
    rintro _ H13 ⟨rfl, e13⟩
    refine ⟨_, rfl, fun h13 => ?_, fun _ => ⟨⟨_, _, _, rfl⟩, ⟨_, _, _, rfl⟩, ⟨_, rfl⟩, ⟨k + 1, withoutS w r.path, putS hv r, ?_, by omega, (((e7.trans e8).trans e10).trans e11).trans (e12.trans e13), s12.ext e13, s11.ext (e12.trans e13), by omega, by omega, without_ok _ hw, without_once _ hw1, hpok, put_once r hh1, htp⟩, ?_⟩⟩
    · rw [treeB_iff.2 htp] at h13
      cases h13
    · rw [wrap_i64 (by omega)]; omega
    · show (30 - IntKind.wrap .i64 ((k : Int) + 1)).toNat < (30 - (k : Int)).toNat
      rw [wrap_i64 (by omega)]
      omega
end
end Go.Proofs.YtoemipeomingaaaDoor
