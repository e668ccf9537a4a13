/- What the law on a bumped vector computes, and the plain law behind it. -/
import Derived.Test.YtkidefjiaknefaaR1LawB
namespace Go.Proofs.Ytkidefjiaknefaa
open Go Go.V

theorem bumpV_zero {v : Vec} (hv : VOk v) {dev time : Int} (h : (bumpV v dev time).2 = 0) :
    ∃ k x y : Nat, k < 16 ∧ (k : Int) = dev - 1 ∧ v[k]? = some x ∧ x < y ∧ time ≤ (y : Int) ∧ y < 4294967296 ∧ (bumpV v dev time).1 = v.set k y := by
  unfold bumpV at h ⊢
  by_cases h1 : dev < 1 ∨ 16 < dev ∨ time < 0
  · rw [if_pos h1] at h; cases h
  · rw [if_neg h1] at h ⊢
    have hk : (dev - 1).toNat < 16 := by omega
    obtain ⟨x, hx, hxb⟩ := get_some hv hk
    have hg : v[(dev - 1).toNat]?.getD 0 = x := by rw [hx]; rfl
    rw [hg] at h ⊢
    by_cases h2 : x = 4294967295 ∨ 4294967295 < time
    · rw [if_pos h2] at h; cases h
    · rw [if_neg h2]
      exact ⟨(dev - 1).toNat, x, max (x + 1) time.toNat, hk, by omega, hx, by omega, by omega, by omega, rfl⟩
theorem bumpV_no {v : Vec} {dev time : Int} (h : (bumpV v dev time).2 ≠ 0) : (bumpV v dev time).1 = zeroV := by
  unfold bumpV at h ⊢
  split
  · rfl
  · split
    · rfl
    · rename_i h1 h2
      rw [if_neg h1, if_neg h2] at h
      exact absurd rfl h
theorem max2_set {v : Vec} {k x y : Nat} (hx : v[k]? = some x) (h : x ≤ y) : max2 (v.set k y) v = v.set k y := by
  apply List.ext_getElem?
  intro i
  by_cases hi : i = k
  · subst hi
    have hl : i < v.length := by
      rcases Nat.lt_or_ge i v.length with h1 | h1
      · exact h1
      · rw [List.getElem?_eq_none h1] at hx; cases hx
    have hs : (v.set i y)[i]? = some y := by rw [List.getElem?_set_self hl]
    rw [max2_get hs hx, hs, Nat.max_eq_left h]
  · have hs : (v.set k y)[i]? = v[i]? := List.getElem?_set_ne (by omega)
    cases hv : v[i]? with
    | none =>
      have : (max2 (v.set k y) v)[i]? = none := by
        rw [List.getElem?_eq_none_iff] at hv ⊢
        simp [max2]
        omega
      rw [this, hs, hv]
    | some z =>
      rw [max2_get (hs.trans hv) hv, hs, hv, Nat.max_self]
theorem set_ne {v : Vec} {k x y : Nat} (hx : v[k]? = some x) (h : x < y) : v.set k y ≠ v := by
  intro he
  have hl : k < v.length := by
    rcases Nat.lt_or_ge k v.length with h1 | h1
    · exact h1
    · rw [List.getElem?_eq_none h1] at hx; cases hx
  have : (v.set k y)[k]? = some y := List.getElem?_set_self hl
  rw [he, hx] at this
  injection this
  omega
theorem cmpV_more1 {a b : Vec} (h : max2 a b = a) (hne : a ≠ b) : cmpV a b = 1 := by
  unfold cmpV
  rw [if_pos h, if_neg hne]
/-- concurrent stays so, or is dominated -/
theorem stays_two {a b u : Vec} (hu : max2 u a = u) (h : cmpV a b = 2) : cmpV u b = 2 ∨ cmpV u b = 1 := by
  have key : max2 u b = b → False := fun h1 => by
    have h2 : max2 a b = b := by rw [← h1, ← max2_assoc, max2_comm a u, hu]
    rcases cmpV_cases a b with h3 | h3 | h3 | h3
    · rw [h3.1] at h; cases h
    · rw [h3.1] at h; cases h
    · rw [h3.1] at h; cases h
    · unfold cmpV at h
      split at h
      · split at h <;> cases h
      · cases h
  rcases cmpV_cases u b with h3 | h3 | h3 | h3
  · exact absurd (by rw [h3.2.2]; exact max2_self b) key
  · exact .inr h3.1
  · exact absurd h3.2.2.2 key
  · exact .inl h3.1

/-- how many counters of the first j differ -/
def many (k j : Nat) : Nat := if k < j then 1 else 0

theorem VectorNew_con (a b : Vec) (ha : VOk a) (hb : VOk b) (dev time : Int) (hd : -9223372036854775808 ≤ dev) (ht : time ≤ 9223372036854775807) (H0 : Heap) :
    CallsH Try.prog 6 ⟨[.agg (vc a), .agg (vc b), .int .i64 dev, .int .i64 time]⟩ H0 fun r H1 => r = .bool true ∧ Ext H0 H1 := by
  have za : (vc a).size = 16 := by rw [vc_size, ha.1]
  have zb : (vc b).size = 16 := by rw [vc_size, hb.1]
  have hu := bumpV_ok ha dev time
  have zu : (vc (bumpV a dev time).1).size = 16 := by rw [vc_size, hu.1]
  refine caravanlaw03_VectorNew.ok ?_
  refine st_new fun g4 H1 hg4 e1 b4 => ?_
  refine st_new fun g5 H2 hg5 e2 b5 => ?_
  have b4 := b4.ext e2
  have e2 := e1.trans e2
  refine st_rd b4 za ?_
  refine (Bump_con a ha dev time ht _).mono ?_
  rintro _ H3 ⟨rfl, e3⟩
  refine ⟨_, _, rfl, ?_⟩
  have b4 := b4.ext e3
  have b5 := b5.ext e3
  have e3 := e2.trans e3
  refine st_new fun g9 H4 hg9 e4 b9 => ?_
  have n4 : g4 ≠ g9 := by have := b4.lt; omega
  have n5 : g5 ≠ g9 := by have := b5.lt; omega
  have hg9 : H0.size ≤ g9 := by have := e3.size; omega
  refine st_wr b9 zu rfl (vc_one _) fun H5 h5 b9 => ?_
  have s : S3 H0 H5 g4 g5 g9 a b (bumpV a dev time).1 := by
    rw [h5] at b9 ⊢
    exact ⟨(e3.trans e4).upd hg9, (b4.ext e4).upd_other n4, (b5.ext e4).upd_other n5, b9⟩
  refine ⟨fun h => ?_, fun h => ?_⟩
  · have h0 : (bumpV a dev time).2 ≠ 0 := by simpa using h
    have hz := bumpV_no h0
    refine st_rd s.c zu ⟨_, build24, _, eqV hu.1 zeroV_ok.1, ?_⟩
    rw [hz, show (zeroV == zeroV) = true from rfl]
    refine ⟨fun _ => ?_, fun h => (by cases h)⟩
    exact (awake_con _).mono fun _ _ ⟨h1, h2⟩ => ⟨_, h1, rfl, s.e.trans h2⟩
  · have h0 : (bumpV a dev time).2 = 0 := by simpa using h
    obtain ⟨k, x, y, hk, hkd, hx, hxy, hty, hyb, hup⟩ := bumpV_zero ha h0
    rw [hup] at s hu zu
    have m1 := max2_set hx (Nat.le_of_lt hxy)
    have m2 := cmpV_more1 m1 (set_ne hx hxy)
    have hlk : k < a.length := by rw [ha.1]; exact hk
    refine ⟨fun l H => l = [] ∧ S3 H0 H g4 g5 g9 a b (a.set k y), ?_, ?_⟩
    · refine st_rd s.c zu (st_rd s.a za ?_)
      refine (Cmp_con (a.set k y) a hu ha _).mono ?_
      rintro _ H7 ⟨rfl, e7⟩
      have s := s.ext e7
      rw [m2]
      refine ⟨_, rfl, st_rdc s.a za (st_rdc s.b zb ⟨fun h => (by cases h), fun _ => ?_⟩)⟩
      refine (Cmp_con a b ha hb _).mono ?_
      rintro _ H8 ⟨rfl, e8⟩
      have s := s.ext e8
      refine ⟨_, rfl, st_rdc s.c zu (st_rdc s.b zb ⟨fun h8 => ?_, fun _ => ⟨rfl, s⟩⟩)⟩
      have h8 := stays_two (u := a.set k y) m1 (by simpa using h8)
      refine (Cmp_con (a.set k y) b hu hb _).mono ?_
      rintro _ H9 ⟨rfl, e9⟩
      have s := s.ext e9
      refine ⟨_, rfl, st_rdc s.c zu (st_rdc s.b zb ⟨fun h9 => ?_, fun _ => ⟨rfl, s⟩⟩)⟩
      have h9 : cmpV (a.set k y) b = 1 := by
        rcases h8 with h8 | h8
        · rw [h8] at h9; cases h9
        · exact h8
      refine (Cmp_con (a.set k y) b hu hb _).mono ?_
      rintro _ H10 ⟨rfl, e10⟩
      rw [h9]
      exact ⟨_, rfl, fun h => (by cases h), fun _ => ⟨rfl, s.ext e10⟩⟩
    · rintro H11 ⟨_, s⟩
      refine ⟨LI2 fun p i H => ∃ j : Nat, i = j ∧ j ≤ 16 ∧ p = (many k j : Nat) ∧ H = H11, LM2 fun _ i => (16 - i).toNat, ⟨⟨_, rfl⟩, ⟨_, rfl⟩, 0, rfl, by omega, rfl, rfl⟩, ?_⟩
      rintro p i H12 ⟨j, rfl, hj, rfl, rfl⟩
      refine ⟨fun h => ?_, fun h => ?_⟩
      · have hj16 : j < 16 := by simp at h; omega
        obtain ⟨n, hn, hnb⟩ := get_some hu hj16
        obtain ⟨o, ho, hob⟩ := get_some ha hj16
        refine ⟨LI fun p H => p = (many k (j + 1) : Nat) ∧ H = H12, ⟨⟨by omega, by omega⟩, n, s.c.vcell hn, ⟨by omega, by omega⟩, o, s.a.vcell ho, fun h2 => ⟨⟨_, rfl⟩, ?_, rfl⟩, fun h2 => ⟨⟨_, rfl⟩, ?_, rfl⟩⟩, ?_⟩
        · have hne : n ≠ o := fun he => by subst he; simp at h2
          have hjk : j = k := by
            refine Classical.byContradiction fun hjk => hne ?_
            rw [List.getElem?_set_ne (by omega), ho] at hn
            injection hn with hn
            exact hn.symm
          subst hjk
          rw [wrap_i64 (by simp [many])]
          simp [many]
        · have hne : n = o := by
            have : (n : Int) = (o : Int) := by simpa using h2
            omega
          have hjk : j ≠ k := fun hjk => by
            subst hjk
            rw [List.getElem?_set_self hlk] at hn
            rw [hx] at ho
            injection hn with hn
            injection ho with ho
            omega
          have : (k < j + 1) ↔ (k < j) := by omega
          simp [many, this]
        · rintro p H13 ⟨rfl, rfl⟩
          refine ⟨⟨_, rfl⟩, ⟨_, rfl⟩, ⟨j + 1, ?_, by omega, rfl, rfl⟩, ?_⟩
          · rw [wrap_i64 (by omega)]; omega
          · show (16 - IntKind.wrap .i64 ((j : Int) + 1)).toNat < (16 - (j : Int)).toNat
            rw [wrap_i64 (by omega)]
            omega
      · have : j = 16 := by simp at h; omega
        subst this
        have hmk : many k 16 = 1 := by unfold many; rw [if_pos hk]
        have hw : IntKind.wrap .i64 (dev - 1) = (k : Int) := by rw [wrap_i64 (by omega)]; omega
        have hn : (a.set k y)[k]? = some y := List.getElem?_set_self hlk
        have c1 := s.c.vcell hn
        have c2 := s.a.vcell hx
        rw [hmk, hw]
        refine ⟨fun _ => ⟨by omega, by omega⟩, y, fun _ => c1, fun _ => ⟨by omega, by omega⟩, y, fun _ => c1, fun _ => ⟨by omega, by omega⟩, x, fun _ => c2, ?_⟩
        have t1 : decide (IntKind.wrap .i64 (y : Int) ≥ time) = true := by
          rw [wrap_i64 (by omega)]
          exact decide_eq_true (by omega)
        have t2 : decide ((y : Int) > (x : Int)) = true := decide_eq_true (by omega)
        rw [t1, t2]
        refine ⟨fun _ => tail_awake s.e, fun h => ?_⟩
        cases h
end Go.Proofs.Ytkidefjiaknefaa
