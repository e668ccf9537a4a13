/- What the law on the order of vectors computes, and the plain law behind it. -/
import Derived.Test.YtkidefjiaknefaaR1Con2
namespace Go.Proofs.Ytkidefjiaknefaa
open Go Go.V

/-! ### The order of vectors -/
theorem max2_self (a : Vec) : max2 a a = a := by
  induction a with
  | nil => rfl
  | cons x r ih => simp only [max2, List.zipWith_cons_cons, Nat.max_self] at ih ⊢; rw [ih]
theorem max2_assoc : ∀ (a b c : Vec), max2 (max2 a b) c = max2 a (max2 b c)
  | [], b, c => by cases b <;> cases c <;> simp [max2]
  | x :: r, [], c => by simp [max2]
  | x :: r, y :: s, [] => by simp [max2]
  | x :: r, y :: s, z :: t => by
    have := max2_assoc r s t
    simp only [max2, List.zipWith_cons_cons] at this ⊢
    rw [this, Nat.max_assoc]
theorem cmpV_cases (a b : Vec) : (cmpV a b = 0 ∧ cmpV b a = 0 ∧ a = b) ∨ (cmpV a b = 1 ∧ cmpV b a = -1 ∧ a ≠ b ∧ max2 a b = a) ∨ (cmpV a b = -1 ∧ cmpV b a = 1 ∧ a ≠ b ∧ max2 a b = b) ∨ (cmpV a b = 2 ∧ cmpV b a = 2 ∧ a ≠ b) := by
  by_cases hab : a = b
  · subst hab
    left
    simp [cmpV, max2_self]
  · have hba : b ≠ a := fun h => hab h.symm
    by_cases h1 : max2 a b = a
    · have h2 : max2 b a ≠ b := fun h => by rw [max2_comm] at h; exact hab (h1.symm.trans h)
      have h3 : max2 b a = a := by rw [max2_comm]; exact h1
      exact .inr (.inl ⟨by unfold cmpV; rw [if_pos h1, if_neg hab], by unfold cmpV; rw [if_neg h2, if_pos h3], hab, h1⟩)
    · by_cases h2 : max2 a b = b
      · have h3 : max2 b a = b := by rw [max2_comm]; exact h2
        exact .inr (.inr (.inl ⟨by unfold cmpV; rw [if_neg h1, if_pos h2], by unfold cmpV; rw [if_pos h3, if_neg hba], hab, h2⟩))
      · have h3 : max2 b a ≠ a := by rw [max2_comm]; exact h1
        have h4 : max2 b a ≠ b := by rw [max2_comm]; exact h2
        exact .inr (.inr (.inr ⟨by unfold cmpV; rw [if_neg h1, if_neg h2], by unfold cmpV; rw [if_neg h4, if_neg h3], hab⟩))
theorem cmpV_one {a b : Vec} (h : cmpV a b = 1) : a ≠ b ∧ max2 a b = a := by
  rcases cmpV_cases a b with h1 | h1 | h1 | h1
  · rw [h1.1] at h; cases h
  · exact h1.2.2
  · rw [h1.1] at h; cases h
  · rw [h1.1] at h; cases h
theorem cmpV_ge {a b : Vec} (h : max2 a b = a) : cmpV a b = 0 ∨ cmpV a b = 1 := by
  unfold cmpV
  rw [if_pos h]
  split
  · exact .inl rfl
  · exact .inr rfl
theorem ge_of {a b : Vec} (h : cmpV a b = 0 ∨ cmpV a b = 1) : max2 a b = a := by
  rcases cmpV_cases a b with h1 | h1 | h1 | h1
  · rw [h1.2.2, max2_self]
  · exact h1.2.2.2
  · rw [h1.1] at h; rcases h with h | h <;> cases h
  · rw [h1.1] at h; rcases h with h | h <;> cases h
theorem sum_max : ∀ (a b : Vec), a.length = b.length → max2 a b = a → b.sum ≤ a.sum ∧ (b.sum = a.sum → a = b)
  | [], b, hl, _ => by cases b <;> simp at hl ⊢
  | x :: r, b, hl, h => by
    cases b with
    | nil => simp at hl
    | cons y s =>
      simp only [max2, List.zipWith_cons_cons, List.cons.injEq] at h
      have := sum_max r s (by simpa using hl) h.2
      simp only [List.sum_cons]
      refine ⟨by omega, fun he => ?_⟩
      rw [this.2 (by omega)]
      congr 1
      omega
theorem sum_gt {a b : Vec} (ha : VOk a) (hb : VOk b) (h : cmpV a b = 1) : sumV b < sumV a := by
  obtain ⟨hne, hm⟩ := cmpV_one h
  have := sum_max a b (ha.1.trans hb.1.symm) hm
  unfold sumV
  rcases Nat.lt_or_ge b.sum a.sum with h1 | h1
  · exact h1
  · exact absurd (this.2 (by omega)) hne
theorem cmp_trans {a b c : Vec} (h1 : cmpV a b = 1) (h2 : cmpV b c = 1) : cmpV a c = 1 := by
  obtain ⟨n1, m1⟩ := cmpV_one h1
  obtain ⟨n2, m2⟩ := cmpV_one h2
  have hm : max2 a c = a := by rw [← m1, max2_assoc, m2]
  have hne : a ≠ c := fun he => by
    subst he
    rw [max2_comm] at m2
    exact n1 (m1.symm.trans m2)
  unfold cmpV
  rw [if_pos hm, if_neg hne]
theorem ord1 (a b : Vec) : (cond (cond (!((cmpV a b == 2) == (cmpV b a == 2))) true (cond (cmpV a b != 2) (cmpV a b != (IntKind.wrap .i64 (0 - cmpV b a))) false)) true (!((cmpV a b == 0) == (a == b)))) = false := by
  rcases cmpV_cases a b with ⟨h1, h2, h3⟩ | ⟨h1, h2, h3, _⟩ | ⟨h1, h2, h3, _⟩ | ⟨h1, h2, h3⟩
  · subst h3
    have e : (a == a) = true := beq_self_eq_true a
    rw [h1, e]; rfl
  · rw [h1, h2, beq_eq_false_iff_ne.2 h3]; rfl
  · rw [h1, h2, beq_eq_false_iff_ne.2 h3]; rfl
  · rw [h1, h2, beq_eq_false_iff_ne.2 h3]; rfl

/-! ### The walk -/
section
variable {H H' : Heap} {g n : Nat} {t : TypeId} {cs cs' : Array Value}
theorem st_rdc2 {c d : Prop} {F : Array Value → Prop} (h : Blk H g t cs) (hs : cs.size = n) (hF : F cs) : ∃ x, (c → d → RdN H ⟨g, 0, none⟩ n x) ∧ F x := ⟨cs, fun _ _ => hs ▸ h.rd, hF⟩
end
structure S3 (H0 H : Heap) (g3 g4 g5 : Nat) (a b c : Vec) : Prop where
  e : Ext H0 H
  a : Blk H g3 24 (vc a)
  b : Blk H g4 24 (vc b)
  c : Blk H g5 24 (vc c)
theorem S3.ext {H0 H H' : Heap} {g3 g4 g5 : Nat} {a b c : Vec} (s : S3 H0 H g3 g4 g5 a b c) (x : Ext H H') : S3 H0 H' g3 g4 g5 a b c := ⟨s.e.trans x, s.a.ext x, s.b.ext x, s.c.ext x⟩
structure S4 (H0 H : Heap) (g3 g4 g5 g9 : Nat) (a b c m : Vec) : Prop where
  s : S3 H0 H g3 g4 g5 a b c
  m : Blk H g9 24 (vc m)
theorem S4.ext {H0 H H' : Heap} {g3 g4 g5 g9 : Nat} {a b c m : Vec} (s : S4 H0 H g3 g4 g5 g9 a b c m) (x : Ext H H') : S4 H0 H' g3 g4 g5 g9 a b c m := ⟨s.s.ext x, s.m.ext x⟩

/-- vectors, made into a slice and merged -/
theorem mk_merge (l : List Vec) (hl : ∀ v ∈ l, VOk v) (hn : l.length ≤ 1000) (H : Heap) (ps : List (Nat × Value)) (hps : ps = ((l.map fun v => Value.agg (vc v)).zipIdx 0).map fun x => (x.2, x.1)) {n : Nat} (hln : l.length = n)
    {F : Array Value → Heap → Prop} (h : ∀ H2, Ext H H2 → F (vc (mergeL l)) H2) :
    SemH Try.prog (Instr.buildSlice 32 n ⟨ps⟩) H fun r H1 => ∃ (a : Option Addr) (len cap : Nat), r = .slice a len cap ∧ Ext H H1 ∧ CallsH Try.prog 12 ⟨[.slice a len cap]⟩ H1 fun r2 H2 => ∃ cs, r2 = .agg cs ∧ Ext H1 H2 ∧ F cs H2 := by
  refine (mk_vecs l hl hn H ps hps hln).mono ?_
  rintro _ H1 ⟨g, rfl, e1, hs⟩
  refine ⟨_, _, _, rfl, e1, (Merge_con l hl _ _ _ _ hs (by omega)).mono ?_⟩
  rintro _ H2 ⟨rfl, e2⟩
  exact ⟨_, rfl, e2, h H2 (e1.trans e2)⟩
theorem tail_merge {l : List Vec} (hl : ∀ v ∈ l, VOk v) {a : Option Addr} {n c : Nat} {H : Heap} (hs : SlV H a n l) (hn : n ≤ 1000)
    {F : Array Value → Heap → Prop} (h : ∀ H2, Ext H H2 → F (vc (mergeL l)) H2) : CallsH Try.prog 12 ⟨[.slice a n c]⟩ H fun r2 H2 => ∃ cs, r2 = .agg cs ∧ Ext H H2 ∧ F cs H2 :=
  (Merge_con l hl a n c H hs (by omega)).mono fun _ H2 ⟨h1, h2⟩ => ⟨_, h1, h2, h H2 h2⟩
theorem tail_build {l : List Vec} (hl : ∀ v ∈ l, VOk v) (hn : l.length ≤ 1000) {H : Heap} {ps : List (Nat × Value)} (hps : ps = ((l.map fun v => Value.agg (vc v)).zipIdx 0).map fun x => (x.2, x.1)) {n : Nat} (hln : l.length = n)
    {F : Option Addr → Nat → Nat → Heap → Prop} (h : ∀ g H2, Ext H H2 → SlV H2 (some ⟨g, 0, none⟩) n l → F (some ⟨g, 0, none⟩) n n H2) :
    SemH Try.prog (Instr.buildSlice 32 n ⟨ps⟩) H fun r H1 => ∃ (a : Option Addr) (len cap : Nat), r = .slice a len cap ∧ Ext H H1 ∧ F a len cap H1 :=
  (mk_vecs l hl hn H ps hps hln).mono fun _ H1 ⟨g, h1, e1, hs⟩ => ⟨_, _, _, h1, e1, h g H1 e1 hs⟩
theorem tail_awake {H0 H : Heap} (he : Ext H0 H) : CallsH Try.prog 11 ⟨[]⟩ H fun r H1 => ∃ b : Bool, r = .bool b ∧ Ext H H1 ∧ (Value.bool b = .bool true ∧ Ext H0 H1) :=
  (awake_con H).mono fun _ _ ⟨h1, h2⟩ => ⟨_, h1, h2, rfl, he.trans h2⟩

theorem VectorOrder_con (a b c : Vec) (ha : VOk a) (hb : VOk b) (hc : VOk c) (H0 : Heap) :
    CallsH Try.prog 5 ⟨[.agg (vc a), .agg (vc b), .agg (vc c)]⟩ H0 fun r H1 => r = .bool true ∧ Ext H0 H1 := by
  have za : (vc a).size = 16 := by rw [vc_size, ha.1]
  have zb : (vc b).size = 16 := by rw [vc_size, hb.1]
  have zz : (vc c).size = 16 := by rw [vc_size, hc.1]
  have hm := max2_ok ha hb
  have zm : (vc (max2 a b)).size = 16 := by rw [vc_size, hm.1]
  refine caravanlaw03_VectorOrder.ok ?_
  refine st_new fun g3 H1 hg3 e1 b3 => ?_
  refine st_new fun g4 H2 hg4 e2 b4 => ?_
  refine st_new fun g5 H3 hg5 e3 b5 => ?_
  have s : S3 H0 H3 g3 g4 g5 a b c := ⟨(e1.trans e2).trans e3, (b3.ext e2).ext e3, b4.ext e3, b5⟩
  refine st_rd s.a za (st_rd s.b zb (st_rd s.b zb (st_rd s.a za ?_)))
  refine (Cmp_con a b ha hb _).mono ?_
  rintro _ H4 ⟨rfl, e4⟩
  refine ⟨_, rfl, e4, ?_⟩
  refine (Cmp_con b a hb ha _).mono ?_
  rintro _ H5 ⟨rfl, e5⟩
  refine ⟨_, rfl, e5, ?_⟩
  have s := (s.ext e4).ext e5
  refine ⟨fun l H => l = [] ∧ S3 H0 H g3 g4 g5 a b c, ?_, ?_⟩
  · refine st_rdc s.a za (st_rdc s.b zb ⟨_, fun _ => eqV ha.1 hb.1, ?_⟩)
    rw [ord1]
    exact ⟨fun h => (by cases h), fun _ => ⟨rfl, s⟩⟩
  rintro H6 ⟨_, s⟩
  refine ⟨fun l H => l = [] ∧ S3 H0 H g3 g4 g5 a b c, ?_, ?_⟩
  · refine st_rdc s.a za (st_rdc s.b zb ⟨fun h1 => ?_, fun h1 => ?_⟩)
    · have h1' : cmpV a b = 1 := by simpa using h1
      refine (Sum_con a ha _).mono ?_
      rintro _ H7 ⟨rfl, e7⟩
      refine ⟨_, rfl, e7, ?_⟩
      refine (Sum_con b hb _).mono ?_
      rintro _ H8 ⟨rfl, e8⟩
      refine ⟨_, rfl, e8, ?_⟩
      have s := (s.ext e7).ext e8
      refine st_rdc2 s.b zb (st_rdc2 s.c zz ⟨fun h2 => ?_, fun _ => ⟨fun _ => ?_, fun h => by rw [h1] at h; cases h⟩⟩)
      · have := sum_gt ha hb h1'
        have h2 := of_decide_eq_true h2
        omega
      · refine (Cmp_con b c hb hc _).mono ?_
        rintro _ H9 ⟨rfl, e9⟩
        have s := s.ext e9
        refine ⟨_, rfl, e9, st_rdc s.a za (st_rdc s.c zz ⟨fun h3 => ?_, fun _ => ⟨rfl, s⟩⟩)⟩
        refine (Cmp_con a c ha hc _).mono ?_
        rintro _ H10 ⟨rfl, e10⟩
        refine ⟨_, rfl, e10, ?_⟩
        rw [cmp_trans h1' (by simpa using h3)]
        exact ⟨fun h => (by cases h), fun _ => ⟨rfl, s.ext e10⟩⟩
    · refine st_rdc s.b zb (st_rdc s.c zz ⟨fun h => ?_, fun _ => ⟨rfl, s⟩⟩)
      rw [h1] at h
      cases h
  rintro H13 ⟨_, s⟩
  refine st_rd s.a za (st_rd s.b zb ?_)
  refine (mk_vecs [a, b] (by simp [ha, hb]) (by simp) H13 _ rfl rfl).mono ?_
  rintro _ H14 ⟨g, rfl, e14, hs⟩
  refine ⟨_, _, _, rfl, ?_⟩
  refine (Merge_con [a, b] (by simp [ha, hb]) _ _ _ _ hs (by show 2 ≤ 1000000000; omega)).mono ?_
  rintro _ H15 ⟨rfl, e15⟩
  rw [mergeL_two ha.1]
  refine ⟨_, rfl, ?_⟩
  have s := (s.ext e14).ext e15
  refine st_new fun g9 H16 hg9 e16 b9 => ?_
  have n3 : g3 ≠ g9 := by have := s.a.lt; omega
  have n4 : g4 ≠ g9 := by have := s.b.lt; omega
  have n5 : g5 ≠ g9 := by have := s.c.lt; omega
  have hg9 : H0.size ≤ g9 := by have := s.e.size; omega
  refine st_wr b9 zm rfl (vc_one _) fun H17 h17 b9 => ?_
  have s := s.ext e16
  have s : S4 H0 H17 g3 g4 g5 g9 a b c (max2 a b) := by
    rw [h17] at b9 ⊢
    exact ⟨⟨s.e.upd hg9, s.a.upd_other n3, s.b.upd_other n4, s.c.upd_other n5⟩, b9⟩
  have ma : max2 (max2 a b) a = max2 a b := by rw [max2_comm, ← max2_assoc, max2_self]
  have mb : max2 (max2 a b) b = max2 a b := by rw [max2_assoc, max2_self]
  have ca := cmpV_ge ma
  have cb := cmpV_ge mb
  have ga : decide (cmpV (max2 a b) a ≥ 0) = true := by rcases ca with h | h <;> rw [h] <;> rfl
  have gb : decide (cmpV (max2 a b) b ≥ 0) = true := by rcases cb with h | h <;> rw [h] <;> rfl
  have la : decide (cmpV (max2 a b) a < 2) = true := by rcases ca with h | h <;> rw [h] <;> rfl
  have lb : decide (cmpV (max2 a b) b < 2) = true := by rcases cb with h | h <;> rw [h] <;> rfl
  refine ⟨fun l H => l = [.bool true] ∧ S4 H0 H g3 g4 g5 g9 a b c (max2 a b), ?_, ?_⟩
  · refine st_rd s.m zm (st_rd s.s.a za ?_)
    refine (Cmp_con (max2 a b) a hm ha _).mono ?_
    rintro _ H18 ⟨rfl, e18⟩
    have s := s.ext e18
    refine ⟨_, rfl, st_rdc s.m zm (st_rdc s.s.a za ?_)⟩
    rw [ga]
    refine ⟨fun _ => ?_, fun h => by cases h⟩
    refine (Cmp_con (max2 a b) a hm ha _).mono ?_
    rintro _ H19 ⟨rfl, e19⟩
    have s := s.ext e19
    refine ⟨_, rfl, st_rdc s.m zm (st_rdc s.s.b zb ?_)⟩
    rw [la]
    refine ⟨fun _ => ?_, fun h => by cases h⟩
    refine (Cmp_con (max2 a b) b hm hb _).mono ?_
    rintro _ H20 ⟨rfl, e20⟩
    have s := s.ext e20
    refine ⟨_, rfl, st_rdc s.m zm (st_rdc s.s.b zb ?_)⟩
    rw [gb]
    refine ⟨fun _ => ?_, fun h => by cases h⟩
    refine (Cmp_con (max2 a b) b hm hb _).mono ?_
    rintro _ H21 ⟨rfl, e21⟩
    have s := s.ext e21
    refine ⟨_, rfl, ⟨_, rfl⟩, ?_, s⟩
    rw [lb]
  rintro b10 H22 ⟨hb10, s⟩
  have hb10 : b10 = true := by injection hb10 with h; injection h
  subst hb10
  refine st_rd s.s.c zz (st_rd s.s.a za (st_rd s.s.c zz (st_rd s.s.b zb ?_)))
  refine (Cmp_con c a hc ha _).mono ?_
  rintro _ H23 ⟨rfl, e23⟩
  refine ⟨_, rfl, e23, ?_⟩
  refine (Cmp_con c b hc hb _).mono ?_
  rintro _ H24 ⟨rfl, e24⟩
  refine ⟨_, rfl, e24, ?_⟩
  have s := (s.ext e23).ext e24
  refine ⟨fun l H => l = [] ∧ S4 H0 H g3 g4 g5 g9 a b c (max2 a b), ?_, ?_⟩
  · refine st_rdc s.s.c zz (st_rdc s.m zm ⟨fun h => ?_, fun _ => ⟨rfl, s⟩⟩)
    have hge : cmpV c (max2 a b) = 0 ∨ cmpV c (max2 a b) = 1 := by
      have h1 : (cmpV c a = 0 ∨ cmpV c a = 1) ∧ (cmpV c b = 0 ∨ cmpV c b = 1) := by
        by_cases x0 : cmpV c a = 0 <;> by_cases x1 : cmpV c a = 1 <;> by_cases y0 : cmpV c b = 0 <;> by_cases y1 : cmpV c b = 1 <;> simp [x0, x1, y0, y1] at h ⊢
      have h2 := ge_of h1.1
      have h3 := ge_of h1.2
      exact cmpV_ge (by rw [← max2_assoc, h2, h3])
    refine (Cmp_con c (max2 a b) hc hm _).mono ?_
    rintro _ H25 ⟨rfl, e25⟩
    have s := s.ext e25
    refine ⟨_, rfl, st_rdc s.s.c zz (st_rdc s.m zm ⟨fun h2 => ?_, fun _ => ⟨rfl, s⟩⟩)⟩
    have h1 : cmpV c (max2 a b) = 1 := by
      rcases hge with h3 | h3
      · rw [h3] at h2; cases h2
      · exact h3
    refine (Cmp_con c (max2 a b) hc hm _).mono ?_
    rintro _ H26 ⟨rfl, e26⟩
    refine ⟨_, rfl, ?_⟩
    rw [h1]
    exact ⟨fun h => (by cases h), fun _ => ⟨rfl, s.ext e26⟩⟩
  rintro H27 ⟨_, s⟩
  have q1 : mergeL [b, a] = max2 a b := by rw [mergeL_two hb.1, max2_comm]
  have q2 : mergeL [a, b, a, b] = max2 a b := by
    show max2 (max2 (max2 (max2 zeroV a) b) a) b = _
    rw [max2_zero ha.1, ma, mb]
  have q3 : mergeL [a, a] = a := by rw [mergeL_two ha.1, max2_self]
  have q4 : mergeL [max2 a b, c] = mergeL [a, mergeL [b, c]] := by rw [mergeL_two hm.1, mergeL_two ha.1, mergeL_two hb.1, max2_assoc]
  have hbc := mergeL_ok (l := [b, c]) (by simp [hb, hc])
  have hmc := mergeL_ok (l := [max2 a b, c]) (by simp [hm, hc])
  have bt : ∀ v : Vec, (v == v) = true := fun v => by simp
  refine st_rdc s.m zm (st_rdc s.s.b zb (st_rdc s.s.a za ⟨fun _ => ?_, fun h => by cases h⟩))
  refine mk_merge [b, a] (by simp [ha, hb]) (by simp) H27 _ rfl rfl fun H29 e29 => ?_
  have s := s.ext e29
  rw [q1]
  refine ⟨_, eqV hm.1 hm.1, ?_⟩
  rw [bt]
  refine st_rdc s.m zm (st_rdc s.s.a za (st_rdc s.s.b zb (st_rdc s.s.a za (st_rdc s.s.b zb ⟨fun _ => ?_, fun h => by cases h⟩))))
  refine mk_merge [a, b, a, b] (by simp [ha, hb]) (by simp) H29 _ rfl rfl fun H31 e31 => ?_
  have s := s.ext e31
  rw [q2]
  refine ⟨_, eqV hm.1 hm.1, ?_⟩
  rw [bt]
  refine st_rdc s.s.a za (st_rdc s.s.a za (st_rdc s.s.a za ⟨fun _ => ?_, fun h => by cases h⟩))
  refine mk_merge [a, a] (by simp [ha]) (by simp) H31 _ rfl rfl fun H33 e33 => ?_
  have s := s.ext e33
  rw [q3]
  refine ⟨_, eqV ha.1 ha.1, ?_⟩
  rw [bt]
  refine st_rdc s.m zm (st_rdc s.s.c zz (st_rdc s.s.a za (st_rdc s.s.b zb (st_rdc s.s.c zz ?_))))
  have okbc : ∀ v ∈ [b, c], VOk v := by simp [hb, hc]
  have okmc : ∀ v ∈ [max2 a b, c], VOk v := by simp [hm, hc]
  have okaw : ∀ v ∈ [a, mergeL [b, c]], VOk v := by simp [ha, hbc]
  refine ⟨⟨fun _ => ?_, fun h => by cases h⟩, fun _ => ?_, fun h => by cases h⟩
  · refine tail_build okmc (by simp) rfl rfl fun g1 H34 e34 s1 => ⟨?_, ?_⟩
    · refine tail_merge okmc s1 (by simp) fun H35 e35 => ?_
      refine mk_merge [b, c] okbc (by simp) H35 _ rfl rfl fun H37 e37 => ?_
      refine mk_merge [a, mergeL [b, c]] okaw (by simp) H37 _ rfl rfl fun H39 e39 => ?_
      rw [q4]
      refine ⟨_, eqV (mergeL_ok okaw).1 (mergeL_ok okaw).1, ?_⟩
      rw [bt]
      exact ⟨fun _ => tail_awake ((((s.s.e.trans e34).trans e35).trans e37).trans e39), fun h => by cases h⟩
    · refine tail_build okbc (by simp) rfl rfl fun g2 H41 e41 s2 => ?_
      refine tail_merge okmc (s1.ext e41) (by simp) fun H42 e42 => ?_
      refine tail_merge okbc (s2.ext e42) (by simp) fun H43 e43 => ?_
      refine mk_merge [a, mergeL [b, c]] okaw (by simp) H43 _ rfl rfl fun H45 e45 => ?_
      rw [q4]
      refine ⟨_, eqV (mergeL_ok okaw).1 (mergeL_ok okaw).1, ?_⟩
      rw [bt]
      exact ⟨fun _ => tail_awake (((((s.s.e.trans e34).trans e41).trans e42).trans e43).trans e45), fun h => by cases h⟩
  · refine tail_build okbc (by simp) rfl rfl fun g2 H47 e47 s2 => ?_
    refine tail_build okmc (by simp) rfl rfl fun g1 H48 e48 s1 => ?_
    refine tail_merge okmc s1 (by simp) fun H49 e49 => ?_
    refine tail_merge okbc ((s2.ext e48).ext e49) (by simp) fun H50 e50 => ?_
    refine mk_merge [a, mergeL [b, c]] okaw (by simp) H50 _ rfl rfl fun H52 e52 => ?_
    rw [q4]
    refine ⟨_, eqV (mergeL_ok okaw).1 (mergeL_ok okaw).1, ?_⟩
    rw [bt]
    exact ⟨fun _ => tail_awake (((((s.s.e.trans e47).trans e48).trans e49).trans e50).trans e52), fun h => by cases h⟩
end Go.Proofs.Ytkidefjiaknefaa
