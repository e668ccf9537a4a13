/- Contract: inside: whatever order the map hands its entries out in. -/
import Derived.Test.YtoemipeomingaaaDoorQIns
namespace Go.Proofs.YtoemipeomingaaaDoor
open Go Go.V

/-- what entry i adds to the number of a path -/
def addsN (m : RM) (a : Bs) (i : Nat) : Nat := match m[i]? with
  | some p => if p.2.del then 0 else (aboveB p.1).count a
  | none => 0
def cntN (m : RM) (a : Bs) : Nat := ((List.range m.length).map (addsN m a)).sum
theorem aboveB_most (p : Bs) : (aboveB p).length ≤ 111 := aboveB_len p 111 (parentB p) (parentB_le p)
theorem addsN_le (m : RM) (a : Bs) (i : Nat) : addsN m a i ≤ 111 := by
  unfold addsN
  split
  · split
    · omega
    · rename_i p _ _
      exact Nat.le_trans List.count_le_length (aboveB_most p.1)
  · omega
theorem sum_adds_le (m : RM) (a : Bs) : ∀ l : List Nat, (l.map (addsN m a)).sum ≤ l.length * 111
  | [] => by simp
  | i :: l => by
    have := sum_adds_le m a l
    have := addsN_le m a i
    simp only [List.map_cons, List.sum_cons, List.length_cons]
    omega
/-- how many have come up -/
def seenAt (H : Heap) (r : Nat) : Nat := match H[r]? with
  | some (.mapIter _ _ s _) => s.size
  | _ => 0
theorem seenAt_of {H : Heap} {r b n : Nat} {s : Array Nat} (h : Iter H r b n s) : seenAt H r = s.size := by
  unfold seenAt
  unfold Iter at h
  rw [h]
theorem perm_range {n : Nat} {sn : List Nat} (hd : sn.Nodup) (hlt : ∀ i ∈ sn, i < n) (hall : ∀ i, i < n → i ∈ sn) : sn.Perm (List.range n) :=
  (List.perm_ext_iff_of_nodup hd List.nodup_range).2 fun i => ⟨fun h => List.mem_range.2 (hlt i h), fun h => hall i (List.mem_range.1 h)⟩
theorem nodup_len {n : Nat} {sn : List Nat} (hd : sn.Nodup) (hlt : ∀ i ∈ sn, i < n) : sn.length ≤ n := by
  have h1 : (sn ++ (List.range n).filter (fun i => !sn.contains i)).Perm (List.range n) := by
    refine (List.perm_ext_iff_of_nodup ?_ List.nodup_range).2 fun i => ?_
    · rw [List.nodup_append]
      refine ⟨hd, List.Pairwise.filter _ List.nodup_range, fun x hx y hy e => ?_⟩
      subst e
      simp at hy
      exact hy.2 hx
    · simp only [List.mem_append, List.mem_filter, List.mem_range]
      constructor
      · rintro (h | h)
        · exact hlt i h
        · exact h.1
      · intro h
        by_cases hs : i ∈ sn
        · exact .inl hs
        · exact .inr ⟨h, by simpa using hs⟩
  have := h1.length_eq
  simp at this
  omega

theorem inside_con (m : RM) (hk : ∀ p ∈ m, p.1.length ≤ 100000000) (hm : m.length ≤ 1000000) (b0 : Nat) (H0 : Heap) (h0 : Mp H0 b0 (kvR m)) :
    CallsH Tryd.prog 29 ⟨[.map (some b0)]⟩ H0 fun r H1 => ∃ b cm, r = .map (some b) ∧ H0.size ≤ b ∧ Mp H1 b (kvN cm) ∧ (∀ a, getN cm a = cntN m a) ∧ Ext H0 H1 := by
  have hml : (kvR m).length = m.length := by simp [kvR]
  refine queue_inside.ok ?_
  refine (sem_makeMap 49).mono ?_
  rintro _ H1 ⟨b, rfl, hb, e1, m1⟩
  refine ⟨_, rfl, ?_⟩
  refine st_new fun g3 H2 hg3 e2 b3 => ?_
  have hgb : g3 ≠ b := by have := m1.lt; omega
  have hw : wr1 H2 ⟨g3, 0, none⟩ (.map (some b)) = some (upd H2 g3 49 #[.map (some b)]) := b3.wr1 (i := 0) (by simp [zc, tget, tab, Value.cells]) rfl
  refine ⟨_, hw, ?_⟩
  have hg0 : H0.size ≤ g3 := by have := e1.size; omega
  have e3 : Ext H0 (upd H2 g3 49 #[.map (some b)]) := (e1.trans e2).upd hg0
  have m3 : Mp (upd H2 g3 49 #[.map (some b)]) b (kvN []) := (m1.ext e2).upd (Ne.symm hgb)
  have b3 : Blk (upd H2 g3 49 #[.map (some b)]) g3 49 #[.map (some b)] := b3.upd_same
  generalize upd H2 g3 49 #[.map (some b)] = H3 at e3 m3 b3 ⊢
  refine (sem_range (P := Tryd.prog) (t := 47) u47 (h0.ext e3)).mono ?_
  rintro _ H4 ⟨r, rfl, hr, e4, i4⟩
  have hrb : r ≠ b := by have := m3.lt; omega
  have hrg : r ≠ g3 := by have := b3.lt; omega
  have hr0 : H0.size ≤ r := by have := e3.size; omega
  refine ⟨fun l H => ∃ (sn : List Nat) (cm : NM), l = [] ∧ Ext H0 H ∧ Iter H r b0 m.length ⟨sn⟩ ∧ sn.Nodup ∧ (∀ i ∈ sn, i < m.length) ∧ Mp H b (kvN cm) ∧ Blk H g3 49 #[.map (some b)] ∧ ∀ a, getN cm a = (sn.map (addsN m a)).sum,
    fun _ H => m.length + 1 - seenAt H r, ⟨[], [], rfl, e3.trans e4, by rw [hml] at i4; exact i4, List.nodup_nil, by simp, m3.ext e4, b3.ext e4, fun a => rfl⟩, ?_⟩
  rintro H5 ⟨sn, cm, _, e5, i5, hd, hlt, m5, b5, hc⟩
  have hsl := nodup_len hd hlt
  have i5' : Iter H5 r b0 (kvR m).length ⟨sn⟩ := by rw [hml]; exact i5
  refine (sem_next (P := Tryd.prog) i5' (h0.ext e5)).mono ?_
  rintro _ H6 (⟨rfl, rfl, hall⟩ | ⟨i, p, hp, hns, rfl, rfl⟩)
  · refine ⟨false, [], rfl, fun h => (by cases h), fun _ => ⟨some b, by rw [b5.cell]; rfl, b, cm, rfl, hb, m5, fun a => ?_, e5⟩⟩
    have hall' : ∀ i, i < m.length → i ∈ sn := fun i hi => by
      have := hall i (by rw [hml]; exact hi)
      simpa using this
    rw [hc a]
    exact ((perm_range hd hlt hall').map _).sum_nat
  · refine ⟨true, _, rfl, fun _ => ?_, fun h => (by cases h)⟩
    obtain ⟨q, hq, hqp⟩ : ∃ q, m[i]? = some q ∧ p = (q.1, .agg (rc q.2)) := by
      unfold kvR at hp
      rw [List.getElem?_map] at hp
      cases hq : m[i]? with
      | none => rw [hq] at hp; cases hp
      | some q => rw [hq] at hp; injection hp with hp; exact ⟨q, rfl, hp.symm⟩
    subst hqp
    have hil : i < m.length := by
      rcases Nat.lt_or_ge i m.length with h1 | h1
      · exact h1
      · rw [List.getElem?_eq_none h1] at hq; cases hq
    have hni : i ∉ sn := by simpa using hns
    have i6 := i5'.set ((⟨sn⟩ : Array Nat).push i)
    have m6 : Mp (setO H5 r (.mapIter (some b0) (kvR m).length ((⟨sn⟩ : Array Nat).push i) (kvR m).length)) b (kvN cm) := m5.setO_other (Ne.symm hrb)
    have b6 := b5.setO (b := r) (o := .mapIter (some b0) (kvR m).length ((⟨sn⟩ : Array Nat).push i) (kvR m).length) (Ne.symm hrg)
    have e6 : Ext H0 (setO H5 r (.mapIter (some b0) (kvR m).length ((⟨sn⟩ : Array Nat).push i) (kvR m).length)) := e5.setO hr0
    generalize setO H5 r (.mapIter (some b0) (kvR m).length ((⟨sn⟩ : Array Nat).push i) (kvR m).length) = H6 at i6 m6 b6 e6 ⊢
    refine ⟨_, _, heap_entry i6 (h0.ext e6) hp, _, rfl, _, rfl, ?_⟩
    refine st_new fun g6 H7 hg6 e7 b7 => ?_
    refine st_wr b7 (rc_size _) rfl (rc_one _) fun H8 h8 b8 => ?_
    have hg60 : H0.size ≤ g6 := by have := e6.size; omega
    have e8 : Ext H0 H8 := by rw [h8]; exact (e6.trans e7).upd hg60
    have i8 : Iter H8 r b0 m.length ⟨sn ++ [i]⟩ := by
      rw [h8, ← hml, show (⟨sn ++ [i]⟩ : Array Nat) = (⟨sn⟩ : Array Nat).push i by simp]
      exact (i6.ext e7).upd (by have := i6.lt; omega)
    have m8 : Mp H8 b (kvN cm) := by rw [h8]; exact (m6.ext e7).upd (by have := m6.lt; omega)
    have b68 : Blk H8 g3 49 #[.map (some b)] := by rw [h8]; exact (b6.ext e7).upd_other (by have := b6.lt; omega)
    have hd' : (sn ++ [i]).Nodup := by
      rw [List.nodup_append]
      exact ⟨hd, by simp, fun x hx y hy e => by simp at hy; rw [e, hy] at hx; exact hni hx⟩
    have hlt' : ∀ j ∈ sn ++ [i], j < m.length := fun j hj => by
      rcases List.mem_append.1 hj with h | h
      · exact hlt j h
      · simp at h; omega
    have hless : ∀ H9, Iter H9 r b0 m.length ⟨sn ++ [i]⟩ → m.length + 1 - seenAt H9 r < m.length + 1 - seenAt H5 r := fun H9 h9 => by
      rw [seenAt_of h9, seenAt_of i5]
      simp
      omega
    refine ⟨q.2.del, b8.rcell (rc_del _), fun hdel => ?_, fun hdel => ⟨⟨sn ++ [i], cm, rfl, e8, i8, hd', hlt', m8, b68, fun a => ?_⟩, hless _ i8⟩⟩
    · have hdel : q.2.del = false := by simpa using hdel
      refine (count1_con q.1 (hk q (List.mem_of_getElem? hq)) g3 b 111000000 cm H8 b68 m8 (fun a => ?_) (by omega)).mono ?_
      · rw [hc a]
        have := sum_adds_le m a sn
        omega
      · rintro _ H9 ⟨rfl, g9, cm', m9, hc'⟩
        have i9 : Iter H9 r b0 m.length ⟨sn ++ [i]⟩ := i8.grown g9 (fun e => hrb (by injection e))
        refine ⟨rfl, ⟨sn ++ [i], cm', rfl, GrownH.of_ext e8 g9 (fun k hk' => by injection hk' with hk'; omega), i9, hd', hlt', m9, g9.blk b68 (fun e => hgb (by injection e)), fun a => ?_⟩, hless _ i9⟩
        rw [hc' a, hc a, List.map_append, List.sum_append]
        simp [addsN, hq, hdel]
    · have hdel : q.2.del = true := by simpa using hdel
      rw [hc a, List.map_append, List.sum_append]
      simp [addsN, hq, hdel]
end Go.Proofs.YtoemipeomingaaaDoor
