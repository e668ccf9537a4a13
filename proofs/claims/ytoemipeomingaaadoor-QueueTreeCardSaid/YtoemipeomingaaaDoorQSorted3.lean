/- Contract: sorted: a map's records, in order. -/
import Derived.Test.YtoemipeomingaaaDoorQBase
import Derived.Test.YtoemipeomingaaaDoorQSorted2
import Derived.Shelf.SlSortCmp.NoneTotal
namespace Go.Proofs.YtoemipeomingaaaDoor
open Go Go.V

theorem SortFunc_nil (p : Option Addr) (cap : Nat) (H0 : Heap) : CallsH Tryd.prog 44 ⟨[.slice p 0 cap, .func (.func 45) ⟨[]⟩ ⟨[]⟩]⟩ H0 fun r H1 => r = .tuple ⟨[]⟩ ∧ H1 = H0 := by
  intro w hw
  subst hw
  refine (AnyF.slices_SortFunc_none Tryd.sortRec p cap (.func (.func 45) ⟨[]⟩ ⟨[]⟩) w).mono ?_
  rintro e w' ⟨rfl, rfl⟩
  exact ⟨.tuple ⟨[]⟩, rfl, Same.refl _, rfl, rfl⟩
theorem sorted_con {m : RM} {l : List Rec} (hm : LikeM m l) (hl : m.length ≤ 1000000) (b0 : Nat) (H0 : Heap) (h0 : Mp H0 b0 (kvR m)) :
    CallsH Tryd.prog 30 ⟨[.map (some b0)]⟩ H0 fun r H1 => ∃ a c, r = .slice a (setS l).length c ∧ SlR H1 a (setS l).length (setS l) ∧ Ext H0 H1 := by
  have hml : (kvR m).length = m.length := by simp [kvR]
  refine queue_sorted.ok ?_
  refine (sem_range (P := Tryd.prog) (t := 47) u47 h0).mono ?_
  rintro _ H1 ⟨r, rfl, hr, e1, i1⟩
  have hr1 := i1.lt
  refine ⟨LSl fun a n c H => ∃ sn : List Nat, n = sn.length ∧ Ext H0 H ∧ H1.size ≤ H.size ∧ Iter H r b0 m.length ⟨sn⟩ ∧ sn.Nodup ∧ (∀ i ∈ sn, i < m.length) ∧ OwnH H H1.size 35 27 (.slice a n c) n (recs (sn.map (rAt m))),
    fun _ H => m.length + 1 - seenAt H r, ⟨⟨_, _, _, rfl⟩, [], rfl, e1, Nat.le_refl _, by rw [hml] at i1; exact i1, List.nodup_nil, by simp, by simpa [recs] using OwnH.nil H1 H1.size 35 27⟩, ?_⟩
  rintro a n c H2 ⟨sn, hn, e2, hs2, i2, hd, hlt, o2⟩
  have hsl := nodup_len hd hlt
  have i2' : Iter H2 r b0 (kvR m).length ⟨sn⟩ := by rw [hml]; exact i2
  refine (sem_next (P := Tryd.prog) i2' (h0.ext e2)).mono ?_
  rintro _ H3 (⟨rfl, rfl, hall⟩ | ⟨i, p, hp, hns, rfl, rfl⟩)
  · refine ⟨false, [], rfl, fun h => (by cases h), fun _ => ?_⟩
    have hall' : ∀ i, i < m.length → i ∈ sn := fun i hi => by
      have := hall i (by rw [hml]; exact hi)
      simpa using this
    have hperm : (sn.map (rAt m)).Perm (m.map (·.2)) := by
      rw [← rAt_all m]
      exact (perm_range hd hlt hall').map _
    have hlen : (sn.map (rAt m)).length = (setS l).length := by rw [hperm.length_eq, List.length_map, hm.len]
    rcases o2.2 with ⟨he, hn0⟩ | ⟨g, cap, cur, he, hB, _⟩
    · subst hn0
      refine (SortFunc_nil a c H3).mono ?_
      rintro _ H4 ⟨rfl, rfl⟩
      have h0' : (setS l).length = 0 := by rw [← hlen, List.length_map]; exact hn.symm
      have h1' : setS l = [] := List.eq_nil_of_length_eq_zero h0'
      refine ⟨rfl, a, c, by rw [h0'], by rw [h1']; exact SlR.of_nil H4 a, e2⟩
    · injection he with he1 he2 he3
      subst he1
      refine (SortFunc_con (sn.map (rAt m)) ?_ o2 (by omega)).mono ?_
      · intro x hx
        obtain ⟨p, hp, rfl⟩ := List.mem_map.1 (hperm.mem_iff.1 hx)
        have h1 := hm.short p hp
        rw [(hm.ok.key p hp).1] at h1
        exact h1
      · rintro _ H4 ⟨rfl, l', hp', hs', o4, g4⟩
        have hl' := hm.sort (hp'.trans hperm) hs'
        subst hl'
        obtain ⟨a4, c4, he4, hsl4⟩ := o4.slr
        injection he4 with he41 he42 he43
        have hn' : n = (setS l).length := by rw [← hlen, List.length_map]; exact hn
        subst he41
        rw [← hn']
        refine ⟨rfl, _, _, rfl, hsl4, GrownH.of_ext e2 g4 fun k hk => ?_⟩
        injection hk with hk
        have := e1.size
        omega
  · refine ⟨true, _, rfl, fun _ => ?_, fun h => (by cases h)⟩
    obtain ⟨q, hq, hqp⟩ : ∃ q, m[i]? = some q ∧ p = (q.1, .agg (rc q.2)) := by
      unfold kvR at hp
      rw [List.getElem?_map] at hp
      cases hq : m[i]? with
      | none => rw [hq] at hp; cases hp
      | some q => rw [hq] at hp; injection hp with hp; exact ⟨q, rfl, hp.symm⟩
    subst hqp
    have hil : i < m.length := by
      rcases Nat.lt_or_ge i m.length with h1 | h1
      · exact h1
      · rw [List.getElem?_eq_none h1] at hq; cases hq
    have hni : i ∉ sn := by simpa using hns
    have i3 := i2'.set ((⟨sn⟩ : Array Nat).push i)
    have o3 : OwnH (setO H2 r (.mapIter (some b0) (kvR m).length ((⟨sn⟩ : Array Nat).push i) (kvR m).length)) H1.size 35 27 (.slice a n c) n (recs (sn.map (rAt m))) :=
      o2.kept GrownH.setO (fun k hk e => by
        injection e with e
        have := (o2.base k hk).1
        omega)
    have e3 : Ext H0 (setO H2 r (.mapIter (some b0) (kvR m).length ((⟨sn⟩ : Array Nat).push i) (kvR m).length)) := e2.setO (by omega)
    have hs3 : H1.size ≤ (setO H2 r (.mapIter (some b0) (kvR m).length ((⟨sn⟩ : Array Nat).push i) (kvR m).length)).size := by rw [setO_size]; exact hs2
    generalize setO H2 r (.mapIter (some b0) (kvR m).length ((⟨sn⟩ : Array Nat).push i) (kvR m).length) = H3 at i3 o3 e3 hs3 ⊢
    refine ⟨_, _, heap_entry i3 (h0.ext e3) hp, _, rfl, ?_⟩
    refine st_rec _ fun g4 H4 hg4 e4 b4 => ?_
    refine st_rd b4 (rc_size _) ?_
    have hqr : rAt m i = q.2 := by simp [rAt, hq]
    refine app_rec (o3.ext e4) (by have := e4.size; omega) (by omega) q.2 ?_
    intro a5 c5 H5 o5 g5 _
    have i5 : Iter H5 r b0 m.length ⟨sn ++ [i]⟩ := by
      rw [show (⟨sn ++ [i]⟩ : Array Nat) = (⟨sn⟩ : Array Nat).push i by simp, ← hml]
      exact (i3.ext e4).grown g5 (fun e => by have := ((o3.ext e4).base r e.symm).1; omega)
    refine ⟨⟨_, _, _, rfl⟩, ⟨sn ++ [i], by simp [hn], GrownH.of_ext (e3.trans e4) g5 (fun k hk => by
        have := ((o3.ext e4).base k hk).1
        have := e1.size
        omega), ?_, i5, ?_, ?_, ?_⟩, ?_⟩
    · have := g5.size
      have := e4.size
      omega
    · rw [List.nodup_append]
      exact ⟨hd, by simp, fun x hx y hy e => by simp at hy; rw [e, hy] at hx; exact hni hx⟩
    · intro j hj
      rcases List.mem_append.1 hj with h | h
      · exact hlt j h
      · simp at h; omega
    · rw [List.map_append, List.map_singleton, hqr]
      exact o5
    · show m.length + 1 - seenAt H5 r < m.length + 1 - seenAt H2 r
      rw [seenAt_of i5, seenAt_of i2]
      simp
      omega
end Go.Proofs.YtoemipeomingaaaDoor
