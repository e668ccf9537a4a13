/- What the vectors' laws compute: bumps, pairs, known answers. -/
import Derived.Test.YtkidefjiaknefaaR1Con2
namespace Go.Proofs.Ytkidefjiaknefaa
open Go Go.V

theorem VectorBumps_con (v : Vec) (hv : VOk v) (dev time : Int) (ht : time ≤ 9223372036854775807) (H0 : Heap) :
    CallsH Try.prog 3 ⟨[.agg (vc v), .int .i64 dev, .int .i64 time]⟩ H0 fun r H1 => r = .bool true ∧ Ext H0 H1 := by
  have hok := bumpV_ok hv dev time
  refine caravanlaw03_VectorBumps.ok ?_
  refine st_new fun g3 H1 hg3 e1 b3 => ?_
  refine st_rd b3 (by rw [vc_size, hv.1]) ?_
  refine (Bump_con v hv dev time ht _).mono ?_
  rintro _ H2 ⟨rfl, e2⟩
  have b3 := b3.ext e2
  have e2 := e1.trans e2
  refine ⟨_, _, rfl, ?_⟩
  refine st_new fun g7 H3 hg7 e3 b7 => ?_
  have hne : g3 ≠ g7 := by have := b3.lt; omega
  have hg7 : H0.size ≤ g7 := by have := e2.size; omega
  refine st_wr b7 (by rw [vc_size, hok.1]) rfl (vc_one _) fun H4 h4 b7 => ?_
  have b3 : Blk H4 g3 24 (vc v) := by rw [h4]; exact (b3.ext e3).upd_other hne
  have e4 : Ext H0 H4 := by rw [h4]; exact (e2.trans e3).upd hg7
  refine st_rd b3 (by rw [vc_size, hv.1]) ?_
  refine (rBump_con v hv dev time ht _).mono ?_
  rintro _ H5 ⟨rfl, e5⟩
  have b7 := b7.ext e5
  have e5 := e4.trans e5
  refine ⟨_, _, rfl, ?_⟩
  refine st_new fun g9 H6 hg9 e6 b9 => ?_
  have hne2 : g7 ≠ g9 := by have := b7.lt; omega
  have hg9 : H0.size ≤ g9 := by have := e5.size; omega
  refine st_wr b9 (by rw [vc_size, hok.1]) rfl (vc_one _) fun H7 h7 b9 => ?_
  have b7 : Blk H7 g7 24 (vc (bumpV v dev time).1) := by rw [h7]; exact (b7.ext e6).upd_other hne2
  have e7 : Ext H0 H7 := by rw [h7]; exact (e5.trans e6).upd hg9
  refine st_rd b7 (by rw [vc_size, hok.1]) (st_rd b9 (by rw [vc_size, hok.1]) ⟨_, eqV hok.1 hok.1, ?_⟩)
  simp only [beq_self_eq_true, cond_true]
  refine ⟨fun _ => ?_, fun h => by cases h⟩
  refine (awake_con _).mono ?_
  rintro _ H8 ⟨rfl, e8⟩
  exact ⟨_, rfl, rfl, e7.trans e8⟩

theorem VectorPairs_con (a b : Vec) (ha : VOk a) (hb : VOk b) (H0 : Heap) :
    CallsH Try.prog 7 ⟨[.agg (vc a), .agg (vc b)]⟩ H0 fun r H1 => r = .bool true ∧ Ext H0 H1 := by
  have hm := max2_ok ha hb
  refine caravanlaw03_VectorPairs.ok ?_
  refine st_new fun g2 H1 hg2 e1 b2 => ?_
  refine st_new fun g3 H2 hg3 e2 b3 => ?_
  have b2 := b2.ext e2
  have e2 := e1.trans e2
  refine st_rd b2 (by rw [vc_size, ha.1]) (st_rd b3 (by rw [vc_size, hb.1]) ?_)
  refine (mk_vecs [a, b] (by simp [ha, hb]) (by simp) H2 _ rfl rfl).mono ?_
  rintro _ H3 ⟨g, rfl, e3, hs⟩
  refine ⟨_, _, _, rfl, ?_⟩
  refine (Merge_con [a, b] (by simp [ha, hb]) _ _ _ _ hs (by show 2 ≤ 1000000000; omega)).mono ?_
  rintro _ H4 ⟨rfl, e4⟩
  rw [mergeL_two ha.1]
  refine ⟨_, rfl, ?_⟩
  have b2 := (b2.ext e3).ext e4
  have b3 := (b3.ext e3).ext e4
  have e4 := (e2.trans e3).trans e4
  refine st_new fun g5 H5 hg5 e5 b5 => ?_
  have hn2 : g2 ≠ g5 := by have := b2.lt; omega
  have hn3 : g3 ≠ g5 := by have := b3.lt; omega
  have hg5 : H0.size ≤ g5 := by have := e4.size; omega
  refine st_wr b5 (by rw [vc_size, hm.1]) rfl (vc_one _) fun H6 h6 b5 => ?_
  have b2 : Blk H6 g2 24 (vc a) := by rw [h6]; exact (b2.ext e5).upd_other hn2
  have b3 : Blk H6 g3 24 (vc b) := by rw [h6]; exact (b3.ext e5).upd_other hn3
  have e6 : Ext H0 H6 := by rw [h6]; exact (e4.trans e5).upd hg5
  refine st_rd b2 (by rw [vc_size, ha.1]) ?_
  refine (Least_con a ha _).mono ?_
  rintro _ H7 ⟨rfl, e7⟩
  obtain ⟨n, bb, hlr⟩ : ∃ n bb, leastR a = .tuple ⟨[.int .i64 n, .bool bb]⟩ := by
    unfold leastR
    cases leastV a <;> exact ⟨_, _, rfl⟩
  refine ⟨n, bb, hlr, ?_⟩
  have b2 := b2.ext e7
  refine st_rd b2 (by rw [vc_size, ha.1]) ?_
  refine (rLeast_con a ha _).mono ?_
  rintro _ H8 ⟨rfl, e8⟩
  refine ⟨n, bb, hlr, ?_⟩
  have b2 := b2.ext e8
  have b3 := (b3.ext e7).ext e8
  have b5 := (b5.ext e7).ext e8
  have e8 := (e6.trans e7).trans e8
  refine st_rd b2 (by rw [vc_size, ha.1]) (st_rd b3 (by rw [vc_size, hb.1]) (st_rd b2 (by rw [vc_size, ha.1]) (st_rd b3 (by rw [vc_size, hb.1]) ?_)))
  refine (Cmp_con a b ha hb _).mono ?_
  rintro _ H9 ⟨rfl, e9⟩
  refine ⟨_, rfl, e9, ?_⟩
  refine (rCmp_con a b ha hb _).mono ?_
  rintro _ H10 ⟨rfl, e10⟩
  refine ⟨_, rfl, e10, ?_⟩
  have b2 := (b2.ext e9).ext e10
  have b3 := (b3.ext e9).ext e10
  have b5 := (b5.ext e9).ext e10
  have e10 := (e8.trans e9).trans e10
  refine st_rdc b5 (by rw [vc_size, hm.1]) (st_rdc b2 (by rw [vc_size, ha.1]) (st_rdc b3 (by rw [vc_size, hb.1]) ⟨fun _ => ?_, fun h => by simp at h⟩))
  refine (mk_vecs [a, b] (by simp [ha, hb]) (by simp) H10 _ rfl rfl).mono ?_
  rintro _ H11 ⟨g, rfl, e11, hs⟩
  refine ⟨_, _, _, rfl, e11, ?_⟩
  refine (rMerge_con [a, b] (by simp [ha, hb]) _ _ _ _ hs (by show 2 ≤ 1000000000; omega)).mono ?_
  rintro _ H12 ⟨rfl, e12⟩
  rw [mergeL_two ha.1]
  refine ⟨_, rfl, e12, _, eqV hm.1 hm.1, ?_⟩
  have b2 := (b2.ext e11).ext e12
  refine st_rdc b2 (by rw [vc_size, ha.1]) (st_rdc b2 (by rw [vc_size, ha.1]) ⟨fun _ => ?_, fun h => by simp at h⟩)
  refine (Sum_con a ha _).mono ?_
  rintro _ H13 ⟨rfl, e13⟩
  refine ⟨_, rfl, e13, ?_⟩
  refine (rSum_con a ha _).mono ?_
  rintro _ H14 ⟨rfl, e14⟩
  refine ⟨_, rfl, e14, ?_⟩
  simp only [beq_self_eq_true, cond_true]
  refine ⟨fun _ => ?_, fun h => by cases h⟩
  refine (awake_con _).mono ?_
  rintro _ H15 ⟨rfl, e15⟩
  exact ⟨_, rfl, e15, rfl, (((((e10.trans e11).trans e12).trans e13).trans e14).trans e15)⟩

/-- 'of' of nothing -/
theorem of_nil {F : Value → Heap → Prop} (H : Heap) (h : ∀ H2, Ext H H2 → F (.agg (vc (ofV []))) H2) :
    CallsH Try.prog 21 ⟨[.slice none 0 0]⟩ H F :=
  (of_con [] (by simp) (by simp) none 0 0 H ⟨rfl, fun h => absurd h (by omega)⟩).mono fun _ H2 ⟨h1, h2⟩ => h1 ▸ h H2 h2
theorem ofk {us : List Nat} (h : (us.all (· < 4294967296) && us.length ≤ 16) = true) : VOk (ofV us) := by
  simp at h
  exact ofV_ok h.1 h.2

theorem VectorKnown_con (H0 : Heap) :
    CallsH Try.prog 8 ⟨[]⟩ H0 fun r H1 => r = .bool true ∧ Ext H0 H1 := by
  refine caravanlaw03_VectorKnown.ok ?_
  refine (awake_con _).mono ?_
  rintro _ H1 ⟨rfl, e1⟩
  refine ⟨_, rfl, fun h => absurd h (by decide), fun _ => ?_⟩
  refine of_mk [0, 5] (by decide) (by decide) H1 rfl _ rfl fun H2 e2 => ⟨_, rfl, ?_⟩
  refine of_mk [0, 9] (by decide) (by decide) H2 rfl _ rfl fun H3 e3 => ⟨_, rfl, ?_⟩
  refine (bumps_con (ofV [0, 5]) (ofV [0, 9]) (ofk rfl) (ofk rfl) 2 9 (by decide) H3).mono ?_
  rintro _ H4 ⟨rfl, e4⟩
  have e4 := ((e1.trans e2).trans e3).trans e4
  refine ⟨_, rfl, fun h => absurd h (by decide), fun _ => ?_⟩
  refine of_mk [0, 5] (by decide) (by decide) H4 rfl _ rfl fun H5 e5 => ⟨_, rfl, ?_⟩
  refine of_mk [1, 5] (by decide) (by decide) H5 rfl _ rfl fun H6 e6 => ⟨_, rfl, ?_⟩
  refine (bumps_con (ofV [0, 5]) (ofV [1, 5]) (ofk rfl) (ofk rfl) 1 0 (by decide) H6).mono ?_
  rintro _ H7 ⟨rfl, e7⟩
  have e7 := ((e4.trans e5).trans e6).trans e7
  refine ⟨_, rfl, fun h => absurd h (by decide), fun _ => ?_⟩
  refine of_mk [1] (by decide) (by decide) H7 rfl _ rfl fun H8 e8 => ⟨_, rfl, ?_⟩
  refine (no_con (ofV [1]) (ofk rfl) 0 1 2 (by decide) H8).mono ?_
  rintro _ H9 ⟨rfl, e9⟩
  have e9 := (e7.trans e8).trans e9
  refine ⟨_, rfl, fun h => absurd h (by decide), fun _ => ?_⟩
  refine of_mk [1] (by decide) (by decide) H9 rfl _ rfl fun H10 e10 => ⟨_, rfl, ?_⟩
  refine (no_con (ofV [1]) (ofk rfl) 17 1 2 (by decide) H10).mono ?_
  rintro _ H11 ⟨rfl, e11⟩
  have e11 := (e9.trans e10).trans e11
  refine ⟨_, rfl, fun h => absurd h (by decide), fun _ => ?_⟩
  refine of_mk [1] (by decide) (by decide) H11 rfl _ rfl fun H12 e12 => ⟨_, rfl, ?_⟩
  refine (no_con (ofV [1]) (ofk rfl) 1 (-1) 2 (by decide) H12).mono ?_
  rintro _ H13 ⟨rfl, e13⟩
  have e13 := (e11.trans e12).trans e13
  refine ⟨_, rfl, fun h => absurd h (by decide), fun _ => ?_⟩
  refine of_mk [4294967295] (by decide) (by decide) H13 rfl _ rfl fun H14 e14 => ⟨_, rfl, ?_⟩
  refine (no_con (ofV [4294967295]) (ofk rfl) 1 1 13 (by decide) H14).mono ?_
  rintro _ H15 ⟨rfl, e15⟩
  have e15 := (e13.trans e14).trans e15
  refine ⟨_, rfl, fun h => absurd h (by decide), fun _ => ?_⟩
  refine of_nil H15 fun H16 e16 => ⟨_, rfl, ?_⟩
  refine (no_con (ofV []) (ofk rfl) 1 4294967296 13 (by decide) H16).mono ?_
  rintro _ H17 ⟨rfl, e17⟩
  have e17 := (e15.trans e16).trans e17
  refine ⟨_, rfl, fun h => absurd h (by decide), fun _ => ?_⟩
  refine of_nil H17 fun H18 e18 => ⟨_, rfl, ?_⟩
  refine of_mk [4294967295] (by decide) (by decide) H18 rfl _ rfl fun H19 e19 => ⟨_, rfl, ?_⟩
  refine (bumps_con (ofV []) (ofV [4294967295]) (ofk rfl) (ofk rfl) 1 4294967295 (by decide) H19).mono ?_
  rintro _ H20 ⟨rfl, e20⟩
  have e20 := ((e17.trans e18).trans e19).trans e20
  refine ⟨_, rfl, fun h => absurd h (by decide), fun _ => ?_⟩
  refine of_mk [0, 5] (by decide) (by decide) H20 rfl _ rfl fun H21 e21 => ⟨_, rfl, ?_⟩
  refine (Least_con (ofV [0, 5]) (ofk rfl) H21).mono ?_
  rintro _ H22 ⟨rfl, e22⟩
  refine ⟨_, _, rfl, ?_⟩
  refine of_nil H22 fun H23 e23 => ⟨_, rfl, ?_⟩
  refine (Least_con (ofV []) (ofk rfl) H23).mono ?_
  rintro _ H24 ⟨rfl, e24⟩
  refine ⟨_, _, rfl, ?_⟩
  have e24 := (((e20.trans e21).trans e22).trans e23).trans e24
  refine of_mk [1, 2] (by decide) (by decide) H24 rfl _ rfl fun H25 e25 => ⟨_, rfl, ?_⟩
  refine of_mk [1, 2] (by decide) (by decide) H25 rfl _ rfl fun H26 e26 => ⟨_, rfl, ?_⟩
  refine (Cmp_con (ofV [1, 2]) (ofV [1, 2]) (ofk rfl) (ofk rfl) H26).mono ?_
  rintro _ H27 ⟨rfl, e27⟩
  have e27 := ((e24.trans e25).trans e26).trans e27
  refine ⟨_, rfl, fun _ => ?_, fun h => absurd h (by decide)⟩
  refine of_mk [1, 2] (by decide) (by decide) H27 rfl _ rfl fun H28 e28 => ⟨_, rfl, ?_⟩
  refine of_mk [1, 1] (by decide) (by decide) H28 rfl _ rfl fun H29 e29 => ⟨_, rfl, ?_⟩
  refine (Cmp_con (ofV [1, 2]) (ofV [1, 1]) (ofk rfl) (ofk rfl) H29).mono ?_
  rintro _ H30 ⟨rfl, e30⟩
  have e30 := ((e27.trans e28).trans e29).trans e30
  refine ⟨_, rfl, fun _ => ?_, fun h => absurd h (by decide)⟩
  refine of_nil H30 fun H31 e31 => ⟨_, rfl, ?_⟩
  refine of_mk [0, 1] (by decide) (by decide) H31 rfl _ rfl fun H32 e32 => ⟨_, rfl, ?_⟩
  refine (Cmp_con (ofV []) (ofV [0, 1]) (ofk rfl) (ofk rfl) H32).mono ?_
  rintro _ H33 ⟨rfl, e33⟩
  have e33 := ((e30.trans e31).trans e32).trans e33
  refine ⟨_, rfl, fun _ => ?_, fun h => absurd h (by decide)⟩
  refine (Merge_con [] (by simp) none 0 0 H33 ⟨rfl, fun h => absurd h (by omega)⟩ (by omega)).mono ?_
  rintro _ H34 ⟨rfl, e34⟩
  refine ⟨_, rfl, ?_⟩
  refine of_nil H34 fun H35 e35 => ⟨_, rfl, ?_⟩
  exact ⟨_, eqV zeroV_ok.1 zeroV_ok.1, rfl, (e33.trans e34).trans e35⟩
end Go.Proofs.Ytkidefjiaknefaa
