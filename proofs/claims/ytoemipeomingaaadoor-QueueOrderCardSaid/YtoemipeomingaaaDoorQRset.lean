/- Contract of the document's Set. -/
import Derived.Test.YtoemipeomingaaaDoorQRev
namespace Go.Proofs.YtoemipeomingaaaDoor
open Go Go.V

theorem _root_.Go.V.OwnH.weaken {H : Heap} {B B' : Nat} {e : TypeId} {size : Nat} {v : Value} {n : Nat} {xs : List Value} (h : OwnH H B e size v n xs) (hb : B' ≤ B) : OwnH H B' e size v n xs := by
  refine ⟨h.1, ?_⟩
  rcases h.2 with h2 | ⟨g, cap, cur, h1, h2, h3, h4⟩
  · exact .inl h2
  · exact .inr ⟨g, cap, cur, h1, Nat.le_trans hb h2, h3, h4⟩
theorem _root_.Go.V.OwnH.cap {H : Heap} {B : Nat} {e : TypeId} {size : Nat} {a : Option Addr} {n c : Nat} {xs : List Value} (h : OwnH H B e size (.slice a n c) n xs) : n ≤ c := by
  rcases h.2 with ⟨he, hn⟩ | ⟨g, cap, cur, he, _, _, hc, _⟩
  · omega
  · injection he with _ _ h3
    omega
/-- the cells of a part of a slice -/
theorem _root_.Go.V.OwnH.sub {H : Heap} {B : Nat} {a : Option Addr} {n c : Nat} {l : List Rec} (h : OwnH H B 35 27 (.slice a n c) n (recs l)) (lo : Nat) (hlo : lo ≤ n) :
    ((if c = lo then a else a.map fun z => z.add (lo * 27)) = none → n - lo = 0 ∧ c - lo = 0) ∧
    ∀ ad, (if c = lo then a else a.map fun z => z.add (lo * 27)) = some ad → ∀ j u, (recs (l.drop lo))[j]? = some u → cellAt H (ad.add j) = some u := by
  have hn := h.1
  rw [recs_len] at hn
  have hn : l.length = n := by omega
  have hsplit : recs l = recs (l.take lo) ++ recs (l.drop lo) := by rw [← recs_append, List.take_append_drop]
  have htl : (recs (l.take lo)).length = lo * 27 := by rw [recs_len, List.length_take]; congr 1; omega
  rcases h.2 with ⟨he, hn0⟩ | ⟨g, cap, cur, he, hB, hb, hnc, _, _, ht⟩
  · injection he with h1 h2 h3
    subst h1
    refine ⟨fun _ => by omega, fun ad ha => ?_⟩
    split at ha <;> cases ha
  · injection he with h1 h2 h3
    subst h1
    subst h3
    refine ⟨fun ha => ?_, fun ad ha j u hj => ?_⟩
    · split at ha <;> cases ha
    · have hlt : j < (recs (l.drop lo)).length := by
        rcases Nat.lt_or_ge j (recs (l.drop lo)).length with hl | hl
        · exact hl
        · rw [List.getElem?_eq_none hl] at hj; cases hj
      rw [recs_len, List.length_drop] at hlt
      rw [if_neg (by omega)] at ha
      injection ha with ha
      subst ha
      have hj2 : (recs l)[lo * 27 + j]? = some u := by
        rw [hsplit, List.getElem?_append_right (by omega), htl, Nat.add_sub_cancel_left]
        exact hj
      rw [add_add', hb.cellA, Nat.zero_add, ← hj2, ← ht, List.getElem?_take, if_pos (by omega)]
      simp
theorem take_cells {l : List Rec} {k j : Nat} {u : Value} (h : (recs (l.take k))[j]? = some u) : (recs (l.drop 0))[j]? = some u := by
  have hlt : j < (recs (l.take k)).length := by
    rcases Nat.lt_or_ge j (recs (l.take k)).length with hl | hl
    · exact hl
    · rw [List.getElem?_eq_none hl] at h; cases h
  rw [List.drop_zero, show recs l = recs (l.take k) ++ recs (l.drop k) by rw [← recs_append, List.take_append_drop], List.getElem?_append_left hlt]
  exact h
theorem insR_at : ∀ (s : List Rec) (x : Rec) (k : Nat), k ≤ s.length → (∀ r ∈ s.take k, cmpB r.path x.path < 0) → (∀ r, s[k]? = some r → ¬ cmpB r.path x.path < 0) →
    insR s x = s.take k ++ [x] ++ s.drop (if ∃ r, s[k]? = some r ∧ r.path = x.path then k + 1 else k)
  | [], x, k, hk, _, _ => by
    have : k = 0 := by simpa using hk
    subst this
    simp [insR]
  | y :: s, x, 0, _, _, h2 => by
    have h2 := h2 y rfl
    rw [insR, if_neg h2]
    by_cases he : y.path = x.path
    · rw [if_pos he, if_pos ⟨y, rfl, he⟩]
      simp
    · rw [if_neg he, if_neg (fun ⟨r, hr, hp⟩ => he (by injection hr with hr; rw [hr, hp]))]
      simp
  | y :: s, x, k + 1, hk, h1, h2 => by
    have hy : cmpB y.path x.path < 0 := h1 y (by simp)
    have ih := insR_at s x k (by simpa using hk) (fun r hr => h1 r (by rw [List.take_succ_cons]; exact List.mem_cons_of_mem _ hr)) (fun r hr => h2 r (by simpa using hr))
    rw [insR, if_pos hy, ih]
    simp only [List.getElem?_cons_succ]
    split <;> simp
theorem rSet_con (l : List Rec) (hsh : Short l) (a : Option Addr) (n c : Nat) (H0 : Heap) (hs : SlR H0 a n l) (hn : n ≤ 1000000) :
    CallsH Tryd.prog 33 ⟨[.slice a n c]⟩ H0 fun r H1 => ∃ a1 c1, r = .slice a1 (setS l).length c1 ∧ OwnH H1 H0.size 35 27 (.slice a1 (setS l).length c1) (setS l).length (recs (setS l)) ∧ Ext H0 H1 := by
  have hln := hs.1
  refine caravanref20_Set.ok ?_
  refine ⟨LS2 fun a1 n1 c1 i H => ∃ k : Nat, i = k ∧ k ≤ n ∧ Ext H0 H ∧ OwnH H H0.size 35 27 (.slice a1 n1 c1) n1 (recs (setS (l.take k))), LSM2 fun i => ((n : Int) - i).toNat,
    ⟨⟨_, _, _, rfl⟩, ⟨_, rfl⟩, 0, rfl, by omega, Ext.refl _, by simpa [recs, setS] using OwnH.nil H0 H0.size 35 27⟩, ?_⟩
  rintro a1 n1 c1 i H1 ⟨k, rfl, hk, e1, o1⟩
  have hlen1 : n1 = (setS (l.take k)).length := by have := o1.1; rw [recs_len] at this; omega
  refine ⟨fun h => ?_, fun h => ?_⟩
  · have hkn : k < n := by have := of_decide_eq_true h; omega
    have hkl : k < l.length := by omega
    have hg : l[k]? = some l[k] := List.getElem?_eq_getElem hkl
    obtain ⟨ad, ha, hrd⟩ := hs.2 (by omega)
    have hrk := hrd k _ hg
    have hpl := hsh _ (List.getElem_mem hkl)
    have hsk : setS (l.take (k + 1)) = if okR l[k] then insR (setS (l.take k)) l[k] else setS (l.take k) := by
      rw [List.take_succ_eq_append_getElem hkl, setS_snoc]
    have hsl1 : (setS (l.take k)).length ≤ k := by
      have := setS_len (l.take k)
      rw [List.length_take] at this
      omega
    have hsp : ∀ r ∈ setS (l.take k), r.path.length ≤ 160 := fun r hr => mayB_len (okR_may (setS_ok _ r hr))
    generalize l[k] = x at hg hrk hpl hsk
    generalize hS : setS (l.take k) = s at o1 hlen1 hsk hsl1 hsp
    rw [toNat_cast]
    have rp : ∀ H, Ext H0 H → cellAt H (Addr.add (Addr.add ad (k * 27)) 0) = some (sv x.path) := fun H e => (hrk.ext e).rcell (by omega) (rc_path x)
    have rk : ∀ H, Ext H0 H → cellAt H (Addr.add (Addr.add ad (k * 27)) 1) = some (.int .i64 x.kind) := fun H e => (hrk.ext e).rcell (by omega) (rc_kind x)
    refine ⟨ad, ⟨ha, by omega, by omega⟩, x.path, rp H1 e1, ?_⟩
    refine (rMay_con x.path hpl H1).mono ?_
    rintro _ H2 ⟨rfl, e2⟩
    have e02 := e1.trans e2
    refine ⟨_, rfl, ad, fun _ => ⟨ha, by omega, by omega⟩, x.kind, fun _ => rk H2 e02, ad, fun _ => ⟨ha, by omega, by omega⟩, x.kind, fun _ => rk H2 e02, ?_⟩
    have hok : (cond (cond (!mayB x.path) true (decide (x.kind < 1))) true (decide (x.kind > 3))) = !okR x := by
      unfold okR
      cases mayB x.path with
      | false => rfl
      | true =>
        by_cases h1 : x.kind < 1
        · rw [decide_eq_true h1, decide_eq_false (show ¬ 1 ≤ x.kind by omega)]; rfl
        · rw [decide_eq_false h1, decide_eq_true (show 1 ≤ x.kind by omega)]
          by_cases h3 : x.kind > 3
          · rw [decide_eq_true h3, decide_eq_false (show ¬ x.kind ≤ 3 by omega)]; rfl
          · rw [decide_eq_false h3, decide_eq_true (show x.kind ≤ 3 by omega)]; rfl
    rw [hok]
    have hw : IntKind.wrap .i64 ((k : Int) + 1) = ((k + 1 : Nat) : Int) := by rw [wrap_i64 (by omega)]; omega
    rw [hw]
    have hdec : ((n : Int) - ((k + 1 : Nat) : Int)).toNat < ((n : Int) - (k : Int)).toNat := by omega
    refine ⟨fun h3 => ?_, fun h3 => ?_⟩
    · have h3 : okR x = false := by simpa using h3
      rw [h3, if_neg (by simp)] at hsk
      exact ⟨⟨_, _, _, rfl⟩, ⟨_, rfl⟩, ⟨k + 1, rfl, by omega, e02, by rw [hsk]; exact o1.ext e2⟩, hdec⟩
    · have h3 : okR x = true := by simpa using h3
      rw [h3, if_pos rfl] at hsk
      have o2 := o1.ext e2
      obtain ⟨a2', c2', he2, s2⟩ := o2.slr
      injection he2 with he21 he22 he23
      subst he21
      refine ⟨LI fun i H => ∃ q : Nat, i = q ∧ q ≤ s.length ∧ H = H2 ∧ ∀ r ∈ s.take q, cmpB r.path x.path < 0, LM fun i => ((s.length : Int) - i).toNat, ⟨⟨_, rfl⟩, 0, rfl, by omega, rfl, by simp⟩, ?_⟩
      rintro i H3 ⟨q, rfl, hq, rfl, hbef⟩
      have hqn : (decide ((q : Int) < ((n1 : Nat) : Int))) = decide (q < s.length) := by
        by_cases h1 : q < s.length
        · rw [decide_eq_true h1, decide_eq_true (by omega)]
        · rw [decide_eq_false h1, decide_eq_false (by omega)]
      -- what follows once the place is found
      rw [hqn]
      have hread : ∃ (ad4 : Addr) (y : Bs), (decide (q < s.length) = true → a1 = some ad4 ∧ 0 ≤ (q : Int) ∧ (q : Int) < ((n1 : Nat) : Int)) ∧ (∀ H, Ext H3 H → decide (q < s.length) = true → cellAt H (Addr.add (Addr.add ad4 (q * 27)) 0) = some (sv y)) ∧
          (∀ h : q < s.length, y = s[q].path) := by
        by_cases h1 : q < s.length
        · obtain ⟨ad4, ha4, hrd4⟩ := s2.2 (by omega)
          have hrq := hrd4 q _ (List.getElem?_eq_getElem h1)
          exact ⟨ad4, s[q].path, fun _ => ⟨ha4, by omega, by omega⟩, fun H e _ => (hrq.ext e).rcell (by omega) (rc_path _), fun _ => rfl⟩
        · exact ⟨⟨0, 0, none⟩, [], fun h => absurd (of_decide_eq_true h) h1, fun _ _ h => absurd (of_decide_eq_true h) h1, fun h => absurd h h1⟩
      obtain ⟨ad4, y, hy1, hy2, hy3⟩ := hread
      rw [toNat_cast]
      refine ⟨ad4, hy1, y, hy2 H3 (Ext.refl _), ad, fun _ => ⟨ha, by omega, by omega⟩, x.path, fun _ => rp H3 e02, ?_⟩
      have hyl : y.length ≤ 1000000000 ∨ ¬ q < s.length := by
        by_cases h1 : q < s.length
        · left
          rw [hy3 h1]
          have := hsp _ (List.getElem_mem h1)
          omega
        · exact .inr h1
      have place : (q < s.length → ¬ cmpB y x.path < 0) → ∀ r, s[q]? = some r → ¬ cmpB r.path x.path < 0 := fun hc r hr => by
        have hql : q < s.length := by
          rcases Nat.lt_or_ge q s.length with h1 | h1
          · exact h1
          · rw [List.getElem?_eq_none h1] at hr; cases hr
        rw [List.getElem?_eq_getElem hql] at hr
        injection hr with hr
        rw [← hr, ← hy3 hql]
        exact hc hql
      have hwq : IntKind.wrap .i64 ((q : Int) + 1) = ((q + 1 : Nat) : Int) := by rw [wrap_i64 (by omega)]; omega
      have hcap := o2.cap
      have hsame : (cond (decide (q < s.length)) (y == x.path) false) = decide (∃ r, s[q]? = some r ∧ r.path = x.path) := by
        by_cases h1 : q < s.length
        · rw [decide_eq_true h1, hy3 h1, cond_true]
          rw [List.getElem?_eq_getElem h1]
          by_cases h2 : s[q].path = x.path
          · rw [decide_eq_true ⟨_, rfl, h2⟩]
            simpa using h2
          · rw [decide_eq_false (fun ⟨r, hr, hp⟩ => h2 (by injection hr with hr; rw [hr, hp]))]
            simpa using h2
        · rw [decide_eq_false h1, List.getElem?_eq_none (by omega)]
          rw [decide_eq_false (fun ⟨r, hr, _⟩ => by cases hr)]
          rfl
      have hins : (q < s.length → ¬ cmpB y x.path < 0) → insR s x = s.take q ++ [x] ++ s.drop (if ∃ r, s[q]? = some r ∧ r.path = x.path then q + 1 else q) := fun hc => insR_at s x q hq hbef (place hc)
      refine ⟨fun h4 => ?_, fun h4 => ?_⟩
      · have hql : q < s.length := of_decide_eq_true h4
        refine (rCmp_con y x.path (by rcases hyl with h | h; exact h; exact absurd hql h) (by omega) H3).mono ?_
        rintro _ H4 ⟨rfl, rfl⟩
        refine ⟨_, rfl, Ext.refl _, fun h5 => ⟨⟨_, rfl⟩, ⟨q + 1, hwq, by omega, rfl, fun r hr => ?_⟩, ?_⟩, fun h5 => ?_⟩
        · rw [List.take_succ_eq_append_getElem hql] at hr
          rcases List.mem_append.1 hr with h | h
          · exact hbef r h
          · have : r = s[q] := by simpa using h
            rw [this, ← hy3 hql]
            exact of_decide_eq_true h5
        · show ((s.length : Int) - IntKind.wrap .i64 ((q : Int) + 1)).toNat < ((s.length : Int) - (q : Int)).toNat
          rw [hwq]
          omega
        · have hins := hins fun _ => of_decide_eq_false h5
          have he0 : Ext H0 H4 := e02
          refine ⟨⟨by omega, by omega⟩, ?_⟩
          have sub0 := o2.sub 0 (by omega)
          refine (sem_append (P := Tryd.prog) tab_ok (t := 22) (ty := 22) (e := 35) rfl rfl rfl (by decide) (OwnH.nil H4 H4.size 35 27) (Nat.le_refl _) (m := q - 0) (news := recs (s.take q))
            (by rw [recs_len, List.length_take]; show _ = (q - 0) * 27; congr 1; omega) (fun h => by have := sub0.1 h; omega) (fun ad ha j u hj => sub0.2 ad ha j u (take_cells hj)) (recs_one _) (by simp [maxLen]; omega) (by show (0 + (q - 0)) * 184 ≤ _; omega)).mono ?_
          rintro v60 H5 ⟨o5, g5, _⟩
          rw [List.nil_append] at o5
          obtain ⟨a60, c60, rfl, _⟩ := o5.slr
          have e5 : Ext H4 H5 := GrownH.of_ext (Ext.refl _) g5 (fun k hk => by cases hk)
          refine ⟨_, _, _, rfl, ad, ⟨ha, by omega, by omega⟩, rc x, hrk.ext (e02.trans e5), ?_⟩
          refine app_rec o5 e5.size (by omega) x ?_
          intro a67 c67 H7 o7 g7 _
          have e7 : Ext H4 H7 := GrownH.of_ext e5 g7 (fun k hk => (o5.base k hk).1)
          refine ⟨ad4, hy1, y, hy2 H7 e7, ad, fun _ => ⟨ha, by omega, by omega⟩, x.path, fun _ => rp H7 (e02.trans e7), ?_⟩
          rw [hsame]
          have o27 := o2.ext e7
          refine ⟨fun h8 => ?_, fun h8 => ?_⟩
          · have hex := of_decide_eq_true h8
            have hql2 : q < s.length := by
              obtain ⟨r, hr, _⟩ := hex
              rcases Nat.lt_or_ge q s.length with h1 | h1
              · exact h1
              · rw [List.getElem?_eq_none h1] at hr; cases hr
            rw [if_pos hex] at hins
            rw [hwq]
            refine ⟨⟨by omega, by omega⟩, ?_⟩
            rw [toNat_cast]
            have sub1 := o27.sub (q + 1) (by omega)
            refine (sem_append (P := Tryd.prog) tab_ok (t := 22) (ty := 22) (e := 35) rfl rfl rfl (by decide) o7 e7.size (m := n1 - (q + 1)) (news := recs (s.drop (q + 1)))
              (by rw [recs_len, List.length_drop, hlen1]) sub1.1 sub1.2 (recs_one _) (by simp [maxLen]; omega) (by show (0 + (q - 0) + 1 + (n1 - (q + 1))) * 184 ≤ _; omega)).mono ?_
            rintro v8 H8 ⟨o8, g8, _⟩
            rw [← recs_append, ← hins, ← hsk] at o8
            obtain ⟨a8, c8, rfl, _⟩ := o8.slr
            have e8 : Ext H4 H8 := GrownH.of_ext e7 g8 (fun k hk => (o7.base k hk).1)
            exact ⟨_, _, _, rfl, ⟨_, _, _, rfl⟩, ⟨_, rfl⟩, ⟨k + 1, rfl, by omega, e02.trans e8, o8.weaken e02.size⟩, hdec⟩
          · have hex := of_decide_eq_false h8
            rw [if_neg hex] at hins
            refine ⟨⟨by omega, by omega⟩, ?_⟩
            have sub1 := o27.sub q (by omega)
            refine (sem_append (P := Tryd.prog) tab_ok (t := 22) (ty := 22) (e := 35) rfl rfl rfl (by decide) o7 e7.size (m := n1 - q) (news := recs (s.drop q))
              (by rw [recs_len, List.length_drop, hlen1]) sub1.1 sub1.2 (recs_one _) (by simp [maxLen]; omega) (by show (0 + (q - 0) + 1 + (n1 - q)) * 184 ≤ _; omega)).mono ?_
            rintro v8 H8 ⟨o8, g8, _⟩
            rw [← recs_append, ← hins, ← hsk] at o8
            obtain ⟨a8, c8, rfl, _⟩ := o8.slr
            have e8 : Ext H4 H8 := GrownH.of_ext e7 g8 (fun k hk => (o7.base k hk).1)
            exact ⟨_, _, _, rfl, ⟨_, _, _, rfl⟩, ⟨_, rfl⟩, ⟨k + 1, rfl, by omega, e02.trans e8, o8.weaken e02.size⟩, hdec⟩
      · have hins := hins fun h => absurd h (of_decide_eq_false h4)
        have he0 : Ext H0 H3 := e02
        refine ⟨⟨by omega, by omega⟩, ?_⟩
        have sub0 := o2.sub 0 (by omega)
        refine (sem_append (P := Tryd.prog) tab_ok (t := 22) (ty := 22) (e := 35) rfl rfl rfl (by decide) (OwnH.nil H3 H3.size 35 27) (Nat.le_refl _) (m := q - 0) (news := recs (s.take q))
          (by rw [recs_len, List.length_take]; show _ = (q - 0) * 27; congr 1; omega) (fun h => by have := sub0.1 h; omega) (fun ad ha j u hj => sub0.2 ad ha j u (take_cells hj)) (recs_one _) (by simp [maxLen]; omega) (by show (0 + (q - 0)) * 184 ≤ _; omega)).mono ?_
        rintro v60 H5 ⟨o5, g5, _⟩
        rw [List.nil_append] at o5
        obtain ⟨a60, c60, rfl, _⟩ := o5.slr
        have e5 : Ext H3 H5 := GrownH.of_ext (Ext.refl _) g5 (fun k hk => by cases hk)
        refine ⟨_, _, _, rfl, ad, ⟨ha, by omega, by omega⟩, rc x, hrk.ext (e02.trans e5), ?_⟩
        refine app_rec o5 e5.size (by omega) x ?_
        intro a67 c67 H7 o7 g7 _
        have e7 : Ext H3 H7 := GrownH.of_ext e5 g7 (fun k hk => (o5.base k hk).1)
        refine ⟨ad4, hy1, y, hy2 H7 e7, ad, fun _ => ⟨ha, by omega, by omega⟩, x.path, fun _ => rp H7 (e02.trans e7), ?_⟩
        rw [hsame]
        have o27 := o2.ext e7
        refine ⟨fun h8 => ?_, fun h8 => ?_⟩
        · have hex := of_decide_eq_true h8
          have hql2 : q < s.length := by
            obtain ⟨r, hr, _⟩ := hex
            rcases Nat.lt_or_ge q s.length with h1 | h1
            · exact h1
            · rw [List.getElem?_eq_none h1] at hr; cases hr
          rw [if_pos hex] at hins
          rw [hwq]
          refine ⟨⟨by omega, by omega⟩, ?_⟩
          rw [toNat_cast]
          have sub1 := o27.sub (q + 1) (by omega)
          refine (sem_append (P := Tryd.prog) tab_ok (t := 22) (ty := 22) (e := 35) rfl rfl rfl (by decide) o7 e7.size (m := n1 - (q + 1)) (news := recs (s.drop (q + 1)))
            (by rw [recs_len, List.length_drop, hlen1]) sub1.1 sub1.2 (recs_one _) (by simp [maxLen]; omega) (by show (0 + (q - 0) + 1 + (n1 - (q + 1))) * 184 ≤ _; omega)).mono ?_
          rintro v8 H8 ⟨o8, g8, _⟩
          rw [← recs_append, ← hins, ← hsk] at o8
          obtain ⟨a8, c8, rfl, _⟩ := o8.slr
          have e8 : Ext H3 H8 := GrownH.of_ext e7 g8 (fun k hk => (o7.base k hk).1)
          exact ⟨_, _, _, rfl, ⟨_, _, _, rfl⟩, ⟨_, rfl⟩, ⟨k + 1, rfl, by omega, e02.trans e8, o8.weaken e02.size⟩, hdec⟩
        · have hex := of_decide_eq_false h8
          rw [if_neg hex] at hins
          refine ⟨⟨by omega, by omega⟩, ?_⟩
          have sub1 := o27.sub q (by omega)
          refine (sem_append (P := Tryd.prog) tab_ok (t := 22) (ty := 22) (e := 35) rfl rfl rfl (by decide) o7 e7.size (m := n1 - q) (news := recs (s.drop q))
            (by rw [recs_len, List.length_drop, hlen1]) sub1.1 sub1.2 (recs_one _) (by simp [maxLen]; omega) (by show (0 + (q - 0) + 1 + (n1 - q)) * 184 ≤ _; omega)).mono ?_
          rintro v8 H8 ⟨o8, g8, _⟩
          rw [← recs_append, ← hins, ← hsk] at o8
          obtain ⟨a8, c8, rfl, _⟩ := o8.slr
          have e8 : Ext H3 H8 := GrownH.of_ext e7 g8 (fun k hk => (o7.base k hk).1)
          exact ⟨_, _, _, rfl, ⟨_, _, _, rfl⟩, ⟨_, rfl⟩, ⟨k + 1, rfl, by omega, e02.trans e8, o8.weaken e02.size⟩, hdec⟩
  · have : k = n := by have := of_decide_eq_false h; omega
    subst this
    rw [List.take_of_length_le (by omega)] at o1 hlen1
    rw [hlen1] at o1 ⊢
    exact ⟨_, _, rfl, o1, e1⟩
end Go.Proofs.YtoemipeomingaaaDoor
