/- What the law on any vectors together computes. -/
import Derived.Test.YtkidefjiaknefaaR1Con2
import Derived.Test.YtkidefjiaknefaaVcgQ
namespace Go.Proofs.Ytkidefjiaknefaa
open Go Go.V

theorem empty_vecs (H : Heap) : SemH Try.prog (Instr.buildSlice 32 0 ⟨[]⟩) H fun v H1 => ∃ g, v = .slice (some ⟨g, 0, none⟩) 0 0 ∧ H.size ≤ g ∧ Ext H H1 ∧ Blk H1 g 24 #[] :=
  (sem_buildSlice (P := Try.prog) tab_ok (t := 32) (e := 24) (n := 0) rfl rfl [] [] rfl H rfl (fun v hv => by cases hv) (by omega)).mono fun _ _ ⟨g, h1, h2, h3, h4⟩ => ⟨g, h1, h2, h3, h4⟩

theorem VectorMerges_con (l : List Vec) (hl : ∀ v ∈ l, VOk v) (a : Option Addr) (n c : Nat) (H0 : Heap) (hs : SlV H0 a n l) (hnil : a = none → n = 0 ∧ c = 0) :
    CallsH Try.prog 4 ⟨[.slice a n c]⟩ H0 fun r H1 => r = .bool true ∧ Ext H0 H1 := by
  have hm := mergeL_ok hl
  refine caravanlaw03_VectorMerges.ok ?_
  refine ⟨fun _ => (awake_con _).mono fun _ _ ⟨h1, h2⟩ => ⟨_, h1, rfl, h2⟩, fun h => ?_⟩
  have hn : n ≤ 200 := by
    have := of_decide_eq_false h
    omega
  refine (empty_vecs H0).mono ?_
  rintro _ H1 ⟨g, rfl, hg, e1, b1⟩
  refine ⟨_, _, _, rfl, ?_⟩
  have hs1 := hs.ext e1
  have ho : OwnH H1 H0.size 24 16 (.slice (some ⟨g, 0, none⟩) 0 0) 0 [] := OwnH.none_left b1 hg
  refine (sem_append (P := Try.prog) tab_ok (t := 32) (ty := 32) (e := 24) rfl rfl rfl (by decide) ho e1.size (a := a) (m := n) (c := c) (news := flatV l) (by rw [flatV_len l hl, hs.1]) hnil (hs1.flat hl) (flatV_one l) (by simp [maxLen]; try omega)
    (by show (0 + n) * 64 ≤ _; omega)).mono ?_
  rintro _ H2 ⟨o2, g2⟩
  rw [List.nil_append] at o2
  have hown2 : ∀ k, Value.ownBlock (.slice (some ⟨g, 0, none⟩) 0 0) = some k → H0.size ≤ k := fun k hk => by
    simp [Value.ownBlock] at hk
    omega
  have e2 : Ext H0 H2 := GrownH.of_ext e1 g2 hown2
  obtain ⟨a2, c2, rfl, s2⟩ := OwnH.slv o2 hl
  rw [Nat.zero_add] at s2 ⊢
  refine ⟨_, _, _, rfl, ?_⟩
  refine (Merge_con l hl a2 n c2 H2 s2 (by omega)).mono ?_
  rintro _ H3 ⟨rfl, e3⟩
  refine ⟨_, rfl, ?_⟩
  refine (rMerge_con l hl a n c H3 (hs.ext (e2.trans e3)) (by omega)).mono ?_
  rintro _ H4 ⟨rfl, e4⟩
  have e4' := (e2.trans e3).trans e4
  refine ⟨_, rfl, _, eqV hm.1 hm.1, ?_⟩
  rw [show (mergeL l == mergeL l) = true by simp]
  refine ⟨fun h => (by cases h), fun _ => ?_⟩
  have hs4 := hs.ext e4'
  have s4 := (s2.ext e3).ext e4
  refine ⟨LI fun i H => ∃ k : Nat, i = k ∧ k ≤ n ∧ H = H4, LM fun i => ((n : Int) - i).toNat, ⟨⟨_, rfl⟩, 0, rfl, by omega, rfl⟩, ?_⟩
  rintro i H5 ⟨k, rfl, hk, rfl⟩
  refine ⟨fun h => ?_, fun _ => ?_⟩
  · have hkn : k < l.length := by have := of_decide_eq_true h; rw [hs.1]; omega
    have hv := hl _ (List.getElem_mem hkn)
    have hln := hs.1
    obtain ⟨ad, ha, hr⟩ := hs4.2 (by omega)
    obtain ⟨ad2, ha2, hr2⟩ := s4.2 (by omega)
    refine ⟨ad2, ⟨ha2, by omega, by omega⟩, vc l[k], by rw [toNat_cast]; exact hr2 k hkn, ad, ⟨ha, by omega, by omega⟩, vc l[k], by rw [toNat_cast]; exact hr k hkn, _, eqV hv.1 hv.1, ?_⟩
    rw [show (l[k] == l[k]) = true by simp]
    refine ⟨fun h => (by cases h), fun _ => ⟨⟨_, rfl⟩, ⟨k + 1, ?_, by omega, rfl⟩, ?_⟩⟩
    · rw [wrap_i64 (by omega)]; omega
    · show ((n : Int) - IntKind.wrap .i64 ((k : Int) + 1)).toNat < ((n : Int) - (k : Int)).toNat
      rw [wrap_i64 (by omega)]
      omega
  · exact (awake_con _).mono fun _ _ ⟨h1, h2⟩ => ⟨_, h1, rfl, e4'.trans h2⟩
end Go.Proofs.Ytkidefjiaknefaa
