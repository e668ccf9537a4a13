/- Contracts of the laws' own functions: tree, pick, put, without, works. -/
import Derived.Test.YtoemipeomingaaaDoorQReady
import Derived.Test.YtoemipeomingaaaDoorQRready
namespace Go.Proofs.YtoemipeomingaaaDoor
open Go Go.V

def badPair (x y : Rec) : Bool := ((!x.del && !y.del) && y.kind != 2) && withinB x.path y.path
def treeB (l : List Rec) : Bool := l.all fun x => l.all fun y => !badPair x y
theorem treeB_iff {l : List Rec} : treeB l = true ↔ TreeP l := by
  unfold treeB TreeP badPair
  simp only [List.all_eq_true]
  constructor
  · intro h x hx y hy hxd hyd hyk
    have := h x hx y hy
    cases hw : withinB x.path y.path with
    | false => rfl
    | true => simp [hxd, hyd, hyk, hw] at this
  · intro h x hx y hy
    have := h x hx y hy
    cases hxd : x.del <;> cases hyd : y.del <;> simp
    by_cases hk : y.kind = 2
    · exact .inl hk
    · exact .inr (this hxd hyd hk)
theorem tree_con (l : List Rec) (hsh : Short l) (a : Option Addr) (n c : Nat) (H0 : Heap) (hs : SlR H0 a n l) (hn : n ≤ 1000000) :
    CallsH Tryd.prog 22 ⟨[.slice a n c]⟩ H0 fun r H1 => r = .bool (treeB l) ∧ Ext H0 H1 := by
  have hln := hs.1
  refine caravanlaw20_tree.ok ?_
  refine ⟨LI fun i H => ∃ k : Nat, i = k ∧ k ≤ n ∧ Ext H0 H ∧ ((l.take k).all fun x => l.all fun y => !badPair x y) = true, LM fun i => ((n : Int) - i).toNat, ⟨⟨_, rfl⟩, 0, rfl, by omega, Ext.refl _, rfl⟩, ?_⟩
  rintro i H1 ⟨k, rfl, hk, e1, hall⟩
  refine ⟨fun h => ?_, fun h => ?_⟩
  · have hk' : k < l.length := by have := of_decide_eq_true h; omega
    obtain ⟨ad, ha, hrd⟩ := hs.2 (by omega)
    have hrk := hrd k _ (List.getElem?_eq_getElem hk')
    have hw : IntKind.wrap .i64 ((k : Int) + 1) = ((k + 1 : Nat) : Int) := by rw [wrap_i64 (by omega)]; omega
    rw [toNat_cast, hw]
    refine ⟨LI fun i H => ∃ q : Nat, i = q ∧ q ≤ n ∧ Ext H0 H ∧ ((l.take q).all fun y => !badPair l[k] y) = true, LM fun i => ((n : Int) - i).toNat, ⟨⟨_, rfl⟩, 0, rfl, by omega, e1, rfl⟩, ?_⟩
    rintro i H2 ⟨q, rfl, hq, e2, hall2⟩
    refine ⟨fun h2 => ?_, fun h2 => ?_⟩
    · have hq' : q < l.length := by have := of_decide_eq_true h2; omega
      have hrq := hrd q _ (List.getElem?_eq_getElem hq')
      have hwq : IntKind.wrap .i64 ((q : Int) + 1) = ((q + 1 : Nat) : Int) := by rw [wrap_i64 (by omega)]; omega
      rw [toNat_cast, hwq]
      have hdec : ((n : Int) - ((q + 1 : Nat) : Int)).toNat < ((n : Int) - (q : Int)).toNat := by omega
      have hstep : ((l.take (q + 1)).all fun y => !badPair l[k] y) = !badPair l[k] l[q] := by
        rw [List.take_succ_eq_append_getElem hq', List.all_append, hall2]
        simp
      have hcc : (cond (cond (!l[k].del) (!l[q].del) false) (l[q].kind != (2 : Int)) false) = ((!l[k].del && !l[q].del) && l[q].kind != 2) := by cases l[k].del <;> cases l[q].del <;> rfl
      refine ⟨ad, ⟨ha, by omega, by omega⟩, _, (hrk.ext e2).rcell (by omega) (rc_del _), ad, fun _ => ⟨ha, by omega, by omega⟩, _, fun _ => (hrq.ext e2).rcell (by omega) (rc_del _), ad, fun _ => ⟨ha, by omega, by omega⟩, _, fun _ => (hrq.ext e2).rcell (by omega) (rc_kind _),
        ad, fun _ => ⟨ha, by omega, by omega⟩, _, fun _ => (hrk.ext e2).rcell (by omega) (rc_path _), ad, fun _ => ⟨ha, by omega, by omega⟩, _, fun _ => (hrq.ext e2).rcell (by omega) (rc_path _), ?_⟩
      rw [hcc]
      refine ⟨fun h3 => ?_, fun h3 => ⟨⟨_, rfl⟩, ⟨q + 1, rfl, by omega, e2, by rw [hstep]; unfold badPair; rw [h3]; rfl⟩, hdec⟩⟩
      refine (Within_con _ _ (hsh _ (List.getElem_mem hk')) (hsh _ (List.getElem_mem hq')) H2).mono ?_
      rintro _ H3 ⟨rfl, e3⟩
      refine ⟨_, rfl, e3, fun h4 => ⟨?_, e2.trans e3⟩, fun h4 => ⟨⟨_, rfl⟩, ⟨q + 1, rfl, by omega, e2.trans e3, by rw [hstep]; unfold badPair; rw [h3, h4]; rfl⟩, hdec⟩⟩
      have : treeB l = false := by
        rw [Bool.eq_false_iff]
        intro ht
        unfold treeB at ht
        have h5 := List.all_eq_true.1 (List.all_eq_true.1 ht _ (List.getElem_mem hk')) _ (List.getElem_mem hq')
        unfold badPair at h5
        rw [h3, h4] at h5
        cases h5
      rw [this]
    · have : q = n := by have := of_decide_eq_false h2; omega
      subst this
      rw [List.take_of_length_le (by omega)] at hall2
      refine ⟨⟨_, rfl⟩, ⟨k + 1, rfl, by omega, e2, ?_⟩, ?_⟩
      · rw [List.take_succ_eq_append_getElem hk', List.all_append, hall, List.all_cons, hall2]
        rfl
      · show ((q : Int) - ((k + 1 : Nat) : Int)).toNat < ((q : Int) - (k : Int)).toNat
        omega
  · have : k = n := by have := of_decide_eq_false h; omega
    subst this
    rw [List.take_of_length_le (by omega)] at hall
    refine ⟨?_, e1⟩
    unfold treeB
    rw [hall]
/-- a slice of bytes that came in -/
def SlU (H : Heap) (a : Option Addr) (n : Nat) : Prop := ∀ k, k < n → ∃ ad, a = some ad ∧ ∃ b : Nat, b < 256 ∧ cellAt H (Addr.add ad (k * 1)) = some (.int .u8 (b : Int))
theorem SlU.ext {H H' : Heap} {a : Option Addr} {n : Nat} (h : SlU H a n) (e : Ext H H') : SlU H' a n := fun k hk => let ⟨ad, h1, b, h2, h3⟩ := h k hk; ⟨ad, h1, b, h2, e.cell h3⟩
theorem pick_con (a : Option Addr) (n c turn m : Nat) (hm : 0 < m) (H0 : Heap) (hs : SlU H0 a n) :
    CallsH Tryd.prog 23 ⟨[.slice a n c, .int .i64 (turn : Int), .int .i64 (m : Int)]⟩ H0 fun r H1 => (∃ j : Nat, r = .int .i64 (j : Int) ∧ j < m) ∧ H1 = H0 := by
  refine caravanlaw20_pick.ok ⟨fun h => ?_, fun h => ?_⟩
  · have ht : turn < n := by have := of_decide_eq_true h; omega
    obtain ⟨ad, ha, b, hb, hc⟩ := hs turn ht
    refine ⟨ad, ⟨ha, by omega, by omega⟩, b, by rw [toNat_cast]; exact hc, by omega, ⟨b % m, ?_, Nat.mod_lt _ hm⟩, rfl⟩
    rw [wrap_i64 (by omega)]
    congr 1
  · exact ⟨⟨0, rfl, hm⟩, rfl⟩
theorem without_step (l : List Rec) (p : Bs) {k : Nat} (h : k < l.length) : withoutS (l.take (k + 1)) p = withoutS (l.take k) p ++ (if !(l[k].path == p) then [l[k]] else []) := filter_take_succ h _
theorem put_con (l : List Rec) (r : Rec) (a : Option Addr) (n c : Nat) (H0 : Heap) (hs : SlR H0 a n l) (hn : n ≤ 1000000) :
    CallsH Tryd.prog 24 ⟨[.slice a n c, .agg (rc r)]⟩ H0 fun v H1 => ∃ a1 c1, v = .slice a1 (putS l r).length c1 ∧ SlR H1 a1 (putS l r).length (putS l r) ∧ Ext H0 H1 := by
  have hln := hs.1
  refine caravanlaw20_put.ok ?_
  refine st_new fun g H1 hg e1 b1 => ?_
  refine ⟨LS2 fun a1 n1 c1 i H => ∃ k : Nat, i = k ∧ k ≤ n ∧ n1 ≤ k ∧ Ext H1 H ∧ OwnH H H1.size 35 27 (.slice a1 n1 c1) n1 (recs (withoutS (l.take k) r.path)), LSM2 fun i => ((n : Int) - i).toNat,
    ⟨⟨_, _, _, rfl⟩, ⟨_, rfl⟩, 0, rfl, by omega, Nat.le_refl _, Ext.refl _, by simpa [recs, withoutS] using OwnH.nil H1 H1.size 35 27⟩, ?_⟩
  rintro a2 n2 c2 i H2 ⟨k, rfl, hk, hnk, e2, o2⟩
  refine ⟨fun h => ?_, fun h => ?_⟩
  · have hk' : k < l.length := by have := of_decide_eq_true h; omega
    obtain ⟨ad, ha, hrd⟩ := hs.2 (by omega)
    have hr := (hrd k _ (List.getElem?_eq_getElem hk')).ext (e1.trans e2)
    rw [toNat_cast]
    have hw : IntKind.wrap .i64 ((k : Int) + 1) = ((k + 1 : Nat) : Int) := by rw [wrap_i64 (by omega)]; omega
    rw [hw]
    have hless : ∀ a n1 c a' n' c' H H', (LSM2 fun i => ((n : Int) - i).toNat) [.slice a n1 c, .int .i64 ((k + 1 : Nat) : Int)] H < (LSM2 fun i => ((n : Int) - i).toNat) [.slice a' n' c', .int .i64 (k : Int)] H' := by
      intros
      show ((n : Int) - ((k + 1 : Nat) : Int)).toNat < ((n : Int) - (k : Int)).toNat
      omega
    refine ⟨ad, ⟨ha, by omega, by omega⟩, _, hr.rcell (by omega) (rc_path _), _, (b1.ext e2).rcell (rc_path _), fun h3 => ?_, fun h3 => ⟨⟨_, _, _, rfl⟩, ⟨_, rfl⟩, ⟨k + 1, rfl, by omega, by omega, e2, ?_⟩, hless _ _ _ _ _ _ _ _⟩⟩
    · refine ⟨ad, ⟨ha, by omega, by omega⟩, _, hr, ?_⟩
      refine app_rec o2 e2.size (by omega) l[k] ?_
      intro a3 c3 H3 o3 g3 _
      refine ⟨⟨_, _, _, rfl⟩, ⟨_, rfl⟩, ⟨k + 1, rfl, by omega, by omega, GrownH.of_ext e2 g3 (fun q hq => (o2.base q hq).1), ?_⟩, hless _ _ _ _ _ _ _ _⟩
      rw [without_step l r.path hk', h3, if_pos (by rfl)]
      exact o3
    · rw [without_step l r.path hk', h3, if_neg (by simp), List.append_nil]
      exact o2
  · have : k = n := by have := of_decide_eq_false h; omega
    subst this
    rw [List.take_of_length_le (by omega)] at o2
    refine st_rd (b1.ext e2) (rc_size _) ?_
    refine app_rec o2 e2.size (by omega) r ?_
    intro a3 c3 H3 o3 g3 _
    have s3 : SlR H3 a3 (n2 + 1) (putS l r) := o3.slr'
    have hlen := s3.1
    rw [← hlen] at s3 ⊢
    exact ⟨_, _, rfl, s3, e1.trans (GrownH.of_ext e2 g3 (fun q hq => (o2.base q hq).1))⟩
theorem without_con (l : List Rec) (p : Bs) (a : Option Addr) (n c : Nat) (H0 : Heap) (hs : SlR H0 a n l) (hn : n ≤ 1000000) :
    CallsH Tryd.prog 25 ⟨[.slice a n c, sv p]⟩ H0 fun v H1 => ∃ a1 c1, v = .slice a1 (withoutS l p).length c1 ∧ SlR H1 a1 (withoutS l p).length (withoutS l p) ∧ Ext H0 H1 := by
  have hln := hs.1
  refine caravanlaw20_without.ok ?_
  refine ⟨LS2 fun a1 n1 c1 i H => ∃ k : Nat, i = k ∧ k ≤ n ∧ n1 ≤ k ∧ Ext H0 H ∧ OwnH H H0.size 35 27 (.slice a1 n1 c1) n1 (recs (withoutS (l.take k) p)), LSM2 fun i => ((n : Int) - i).toNat,
    ⟨⟨_, _, _, rfl⟩, ⟨_, rfl⟩, 0, rfl, by omega, Nat.le_refl _, Ext.refl _, by simpa [recs, withoutS] using OwnH.nil H0 H0.size 35 27⟩, ?_⟩
  rintro a2 n2 c2 i H2 ⟨k, rfl, hk, hnk, e2, o2⟩
  refine ⟨fun h => ?_, fun h => ?_⟩
  · have hk' : k < l.length := by have := of_decide_eq_true h; omega
    obtain ⟨ad, ha, hrd⟩ := hs.2 (by omega)
    have hr := (hrd k _ (List.getElem?_eq_getElem hk')).ext e2
    rw [toNat_cast]
    have hw : IntKind.wrap .i64 ((k : Int) + 1) = ((k + 1 : Nat) : Int) := by rw [wrap_i64 (by omega)]; omega
    rw [hw]
    have hless : ∀ a n1 c a' n' c' H H', (LSM2 fun i => ((n : Int) - i).toNat) [.slice a n1 c, .int .i64 ((k + 1 : Nat) : Int)] H < (LSM2 fun i => ((n : Int) - i).toNat) [.slice a' n' c', .int .i64 (k : Int)] H' := by
      intros
      show ((n : Int) - ((k + 1 : Nat) : Int)).toNat < ((n : Int) - (k : Int)).toNat
      omega
    refine ⟨ad, ⟨ha, by omega, by omega⟩, _, hr.rcell (by omega) (rc_path _), fun h3 => ?_, fun h3 => ⟨⟨_, _, _, rfl⟩, ⟨_, rfl⟩, ⟨k + 1, rfl, by omega, by omega, e2, ?_⟩, hless _ _ _ _ _ _ _ _⟩⟩
    · refine ⟨ad, ⟨ha, by omega, by omega⟩, _, hr, ?_⟩
      refine app_rec o2 e2.size (by omega) l[k] ?_
      intro a3 c3 H3 o3 g3 _
      refine ⟨⟨_, _, _, rfl⟩, ⟨_, rfl⟩, ⟨k + 1, rfl, by omega, by omega, GrownH.of_ext e2 g3 (fun q hq => (o2.base q hq).1), ?_⟩, hless _ _ _ _ _ _ _ _⟩
      rw [without_step l p hk', h3, if_pos (by rfl)]
      exact o3
    · rw [without_step l p hk', h3, if_neg (by simp), List.append_nil]
      exact o2
  · have : k = n := by have := of_decide_eq_false h; omega
    subst this
    rw [List.take_of_length_le (by omega)] at o2
    have s2 := o2.slr'
    have hlen := s2.1
    rw [← hlen] at s2 ⊢
    exact ⟨_, _, rfl, s2, e2⟩

/-! ### works -/
theorem flat_recs (l : List Rec) : ((l.map fun r => Value.agg (rc r)).flatMap fun v => v.cells.toList) = recs l := by
  induction l with
  | nil => rfl
  | cons r l ih =>
    rw [List.map_cons, List.flatMap_cons, ih]
    rfl
/-- a slice of records, written out -/
theorem build_recs (l : List Rec) (ps : List (Nat × Value)) (hps : ps = ((l.map fun r => Value.agg (rc r)).zipIdx 0).map fun x => (x.2, x.1)) (n : Nat) (hn : l.length = n) (hmax : n ≤ 1000) (H : Heap) :
    SemH Tryd.prog (Instr.buildSlice 22 n ⟨ps⟩) H fun v H1 => ∃ a, v = .slice a n n ∧ SlR H1 a n l ∧ Ext H H1 := by
  refine (sem_buildSlice (P := Tryd.prog) tab_ok (t := 22) (e := 35) rfl rfl (l.map fun r => Value.agg (rc r)) ps hps H (n := n) (by simpa using hn) ?_ (by show n * 27 ≤ _; omega)).mono ?_
  · intro v hv
    obtain ⟨r, _, rfl⟩ := List.mem_map.1 hv
    rfl
  · rintro _ H1 ⟨g, rfl, hg, e1, b1⟩
    rw [flat_recs] at b1
    refine ⟨_, rfl, ⟨hn, fun _ => ⟨_, rfl, fun k r hk => ⟨rc_size r, fun i hi => ?_⟩⟩⟩, e1⟩
    rw [add_add', b1.cellA, Nat.zero_add, List.getElem?_toArray]
    exact recs_get l k i r hk hi
def wn : List Rec := [⟨[97], 2, true, 0⟩, ⟨[97, 47, 98], 1, true, 0⟩]
def wo : List Rec := [⟨[97], 2, false, 0⟩, ⟨[97, 47, 98], 1, false, 0⟩]
theorem works_ready : readyS wn wo = [⟨[97, 47, 98], 1, true, 0⟩] := by decide
theorem works_aim : (aimS wn wo).length = 2 := by decide
theorem short_of {l : List Rec} (h : (l.all fun r => decide (r.path.length ≤ 1000)) = true) : Short l := fun r hr => by
  have := List.all_eq_true.1 h r hr
  have := of_decide_eq_true this
  omega
theorem works_con (H0 : Heap) : CallsH Tryd.prog 13 ⟨[]⟩ H0 fun v H1 => v = .bool true ∧ Ext H0 H1 := by
  refine caravanlaw20_works.ok ?_
  refine ⟨_, build_rec3 [97] 2 true, _, build_rec3 [97, 47, 98] 1 true, ?_⟩
  refine (build_recs wn _ rfl 2 rfl (by omega) H0).mono ?_
  rintro _ H1 ⟨a1, rfl, s1, e1⟩
  refine ⟨_, _, _, rfl, _, build_rec2 [97] 2, _, build_rec2 [97, 47, 98] 1, ?_⟩
  refine (build_recs wo _ rfl 2 rfl (by omega) H1).mono ?_
  rintro _ H2 ⟨a2, rfl, s2, e2⟩
  refine ⟨_, _, _, rfl, ?_⟩
  refine (Ready_con (needs := wn) (own := wo) (short_of (by decide)) (short_of (by decide)) (by omega) (by omega) H2 (s1.ext e2) s2).mono ?_
  rintro _ H3 ⟨a3, c3, rfl, s3, e3⟩
  rw [works_ready] at s3 ⊢
  obtain ⟨ad, ha, hrd⟩ := s3.2 (by simp)
  have hr := hrd 0 _ rfl
  refine ⟨_, _, _, rfl, ad, fun _ => ⟨ha, by omega, by simp⟩, [97, 47, 98], fun _ => hr.rcell (by omega) (rc_path _), fun _ => ?_, fun h => by simp at h⟩
  refine (Aim_con (needs := wn) (own := wo) (short_of (by decide)) (short_of (by decide)) (by omega) (by omega) H3 (s1.ext (e2.trans e3)) (s2.ext e3)).mono ?_
  rintro _ H4 ⟨a4, c4, rfl, s4, e4⟩
  rw [works_aim] at s4 ⊢
  exact ⟨_, _, _, rfl, rfl, ((e1.trans e2).trans e3).trans e4⟩
end Go.Proofs.YtoemipeomingaaaDoor
