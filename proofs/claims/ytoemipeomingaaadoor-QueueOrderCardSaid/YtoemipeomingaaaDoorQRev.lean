/- Contracts: Reverse; aim. -/
import Derived.Test.YtoemipeomingaaaDoorQCan
namespace Go.Proofs.YtoemipeomingaaaDoor
open Go Go.V

theorem putAt_get : ∀ (vs : List Value) (cs : Array Value) (o j : Nat), o + vs.length ≤ cs.size → (putAt cs o vs)[j]? = if o ≤ j ∧ j < o + vs.length then vs[j - o]? else cs[j]?
  | [], cs, o, j, _ => by
    rw [if_neg (by simp only [List.length_nil]; omega)]
    rfl
  | v :: r, cs, o, j, h => by
    simp only [List.length_cons] at h ⊢
    rw [putAt, putAt_get r _ (o + 1) j (by simp; omega)]
    by_cases h1 : o + 1 ≤ j ∧ j < o + 1 + r.length
    · rw [if_pos h1, if_pos (by omega), show j - o = (j - (o + 1)) + 1 by omega, List.getElem?_cons_succ]
    · rw [if_neg h1]
      by_cases h2 : j = o
      · subst h2
        rw [if_pos (by omega), Nat.sub_self, Array.getElem?_setIfInBounds_self_of_lt (by omega)]
        rfl
      · rw [if_neg (by omega), Array.getElem?_setIfInBounds_ne (by omega)]
/-- one record of a row laid anew -/
theorem wr_rec {H : Heap} {g : Nat} {cur : Array Value} {cap k : Nat} (h : Blk H g 35 cur) (hs : cur.size = cap * 27) (hk : k < cap) (x : Rec) :
    wrN H (Addr.add ⟨g, 0, none⟩ (k * 27)) (rc x).toList 0 = some (upd H g 35 (putAt cur (k * 27) (rcl x))) := by
  have : k * 27 + 27 ≤ cap * 27 := by omega
  have hw := Blk.wrN (g := g) (t := 35) (0 + k * 27) (rc x).toList 0 H cur h (by rw [Array.length_toList, rc_size]; omega) (rc_one x)
  rw [Nat.zero_add, Nat.add_zero] at hw
  have ha : Addr.add ⟨g, 0, none⟩ (k * 27) = ⟨g, k * 27, none⟩ := by simp [Addr.add]; omega
  rw [ha]
  exact hw
theorem wr_rec_get {cur : Array Value} {cap k : Nat} (hs : cur.size = cap * 27) (hk : k < cap) (x : Rec) (q j : Nat) (hj : j < 27) :
    (putAt cur (k * 27) (rcl x))[q * 27 + j]? = if q = k then (rc x)[j]? else cur[q * 27 + j]? := by
  have hx : (rcl x).length = 27 := rfl
  rw [putAt_get _ _ _ _ (by rw [hx]; omega), hx]
  by_cases h : q = k
  · subst h
    rw [if_pos (by omega), if_pos rfl, Nat.add_sub_cancel_left]
    simp [rc]
  · rw [if_neg (by omega), if_neg h]
theorem upd_put {H : Heap} {g : Nat} {cur cur' : Array Value} (h : Blk H g 35 cur) : Blk (upd H g 35 cur') g 35 cur' := upd_same h.lt
theorem upd_grown {H : Heap} {g : Nat} {cur' : Array Value} : GrownH H (upd H g 35 cur') (some g) :=
  ⟨by simp [upd], fun k hk hne => by
    unfold upd
    rw [Array.getElem?_setIfInBounds_ne (fun e => hne (by rw [e]))]⟩
theorem GrownH.refl (H : Heap) (row : Option Nat) : GrownH H H row := ⟨Nat.le_refl _, fun _ _ _ => rfl⟩
def gAt (l : List Rec) (k : Nat) : Rec := (l[k]?).getD r0
theorem gAt_get {l : List Rec} {k : Nat} (h : k < l.length) : l[k]? = some (gAt l k) := by
  unfold gAt
  rw [List.getElem?_eq_getElem h]
  rfl
def revAt (n i k : Nat) : Nat := if k < i ∨ n ≤ k + i then n - 1 - k else k
def LI2 (f : Int → Int → Heap → Prop) : List Value → Heap → Prop
  | [.int .i64 i, .int .i64 j], H => f i j H
  | _, _ => False
def LM2 (f : Int → Int → Nat) : List Value → Heap → Nat
  | [.int .i64 i, .int .i64 j], _ => f i j
  | _, _ => 0
theorem Reverse_con {B : Nat} {H0 : Heap} {a : Option Addr} {n c : Nat} (l : List Rec) (own : OwnH H0 B 35 27 (.slice a n c) n (recs l)) (hn : n ≤ 1000000) :
    CallsH Tryd.prog 32 ⟨[.slice a n c]⟩ H0 fun r H1 => r = .tuple ⟨[]⟩ ∧ OwnH H1 B 35 27 (.slice a n c) n (recs l.reverse) ∧ GrownH H0 H1 (Value.ownBlock (.slice a n c)) := by
  have hlen : l.length = n := by have := own.1; rw [recs_len] at this; omega
  refine slices_Reverse_api_Record_api_Record.ok ?_
  have hw : IntKind.wrap .i64 (((n : Nat) : Int) - 1) = (n : Int) - 1 := wrap_i64 (by omega)
  unfold slices_Reverse_api_Record_api_Record.vc
  rw [hw]
  rcases own.2 with ⟨he, hn0⟩ | ⟨g, cap, cur, he, hB, hblk, hnc, hcm, hcs, htk⟩
  · subst hn0
    have hl0 : l = [] := List.eq_nil_of_length_eq_zero hlen
    subst hl0
    refine ⟨LI2 fun i j H => i = 0 ∧ j = -1 ∧ H = H0, fun _ _ => 0, ⟨⟨_, rfl⟩, ⟨_, rfl⟩, rfl, by simp, rfl⟩, ?_⟩
    rintro i j H1 ⟨rfl, rfl, rfl⟩
    refine ⟨fun h => by simp at h, fun _ => ⟨rfl, own, GrownH.refl _ _⟩⟩
  · injection he with he1 _ he3
    subst he1
    subst he3
    have hget : ∀ k, k < n → ∀ j, j < 27 → cur[k * 27 + j]? = (rc (gAt l (k)))[j]? := fun k hk j hj => by
      have h1 : (recs l)[k * 27 + j]? = cur[k * 27 + j]? := by
        rw [← htk, List.getElem?_take, if_pos (by omega)]
        simp
      rw [← h1]
      exact recs_get l k j _ (gAt_get (by omega)) hj
    refine ⟨LI2 fun i j H => ∃ (k : Nat) (cur' : Array Value), i = k ∧ j = (n : Int) - 1 - k ∧ 2 * k ≤ n ∧ Blk H g 35 cur' ∧ cur'.size = c * 27 ∧ GrownH H0 H (some g) ∧ ∀ q, q < n → ∀ x, x < 27 → cur'[q * 27 + x]? = (rc (gAt l (revAt n k q)))[x]?,
      LM2 fun i j => (j - i + 2).toNat, ⟨⟨_, rfl⟩, ⟨_, rfl⟩, 0, cur, rfl, by omega, by omega, hblk, hcs, GrownH.refl _ _, fun q hq x hx => ?_⟩, ?_⟩
    · rw [hget q hq x hx, show revAt n 0 q = q by unfold revAt; rw [if_neg (by omega)]]
    rintro i j H1 ⟨k, cur', rfl, rfl, hk, b1, hs1, g1, hq1⟩
    refine ⟨fun h => ?_, fun h => ?_⟩
    · have hlt : (k : Int) < (n : Int) - 1 - k := of_decide_eq_true h
      have hj : Int.toNat ((n : Int) - 1 - k) = n - 1 - k := by omega
      rw [hj, toNat_cast]
      have e1 : revAt n k (n - 1 - k) = n - 1 - k := by unfold revAt; rw [if_neg (by omega)]
      have e2 : revAt n k k = k := by unfold revAt; rw [if_neg (by omega)]
      have rd : ∀ {H : Heap} {cu : Array Value} (q : Nat) (r : Rec), Blk H g 35 cu → (∀ x, x < 27 → cu[q * 27 + x]? = (rc r)[x]?) → RdN H (Addr.add ⟨g, 0, none⟩ (q * 27)) 27 (rc r) := fun q r hb hx =>
        ⟨rc_size r, fun x hx' => by rw [add_add', hb.cellA, Nat.zero_add]; exact hx x hx'⟩
      refine ⟨_, ⟨rfl, by omega, by omega⟩, _, rd (n - 1 - k) (gAt l (n - 1 - k)) b1 (fun x hx => by rw [hq1 _ (by omega) x hx, e1]), ?_⟩
      refine ⟨_, ⟨rfl, by omega, by omega⟩, _, rd k (gAt l (k)) b1 (fun x hx => by rw [hq1 _ (by omega) x hx, e2]), ?_⟩
      refine ⟨_, ⟨rfl, by omega, by omega⟩, _, rc_size _, wr_rec b1 hs1 (by omega) _, ?_⟩
      have b2 : Blk (upd H1 g 35 (putAt cur' (k * 27) (rcl (gAt l (n - 1 - k))))) g 35 (putAt cur' (k * 27) (rcl (gAt l (n - 1 - k)))) := upd_put b1
      have hs2 : (putAt cur' (k * 27) (rcl (gAt l (n - 1 - k)))).size = c * 27 := by rw [putAt_size]; exact hs1
      refine ⟨_, ⟨rfl, by omega, by omega⟩, _, rc_size _, wr_rec b2 hs2 (by omega) _, ?_⟩
      have hw1 : IntKind.wrap .i64 ((k : Int) + 1) = ((k + 1 : Nat) : Int) := by rw [wrap_i64 (by omega)]; omega
      have hw2 : IntKind.wrap .i64 ((n : Int) - 1 - k - 1) = (n : Int) - 1 - ((k + 1 : Nat) : Int) := by rw [wrap_i64 (by omega)]; omega
      rw [hw1, hw2]
      refine ⟨⟨_, rfl⟩, ⟨_, rfl⟩, ⟨k + 1, _, rfl, rfl, by omega, upd_put b2, by rw [putAt_size]; exact hs2, (g1.trans upd_grown).trans upd_grown, fun q hq x hx => ?_⟩, ?_⟩
      · rw [wr_rec_get hs2 (by omega) _ _ _ hx, wr_rec_get hs1 (by omega) _ _ _ hx]
        by_cases h1 : q = n - 1 - k
        · rw [if_pos h1, show revAt n (k + 1) q = k by unfold revAt; rw [if_pos (by omega)]; omega]
        · rw [if_neg h1]
          by_cases h2 : q = k
          · rw [if_pos h2, show revAt n (k + 1) q = n - 1 - k by unfold revAt; rw [if_pos (by omega)]; omega]
          · have h4 : revAt n (k + 1) q = revAt n k q := by
              unfold revAt
              by_cases h3 : q < k ∨ n ≤ q + k
              · rw [if_pos h3, if_pos (by omega)]
              · rw [if_neg h3, if_neg (by omega)]
            rw [if_neg h2, hq1 q hq x hx, h4]
      · show ((n : Int) - 1 - ((k + 1 : Nat) : Int) - ((k + 1 : Nat) : Int) + 2).toNat < ((n : Int) - 1 - (k : Int) - (k : Int) + 2).toNat
        omega
    · have hge : ¬ (k : Int) < (n : Int) - 1 - k := of_decide_eq_false h
      refine ⟨rfl, ⟨by rw [recs_len, List.length_reverse]; omega, .inr ⟨g, c, cur', rfl, hB, b1, hnc, hcm, hs1, ?_⟩⟩, g1⟩
      apply List.ext_getElem?
      intro t
      rw [List.getElem?_take]
      split
      · rename_i ht
        have hq : t / 27 < n := by omega
        have hx : t % 27 < 27 := Nat.mod_lt _ (by omega)
        have e3 := hq1 (t / 27) hq (t % 27) hx
        have e4 := recs_get l.reverse (t / 27) (t % 27) (gAt l (n - 1 - t / 27)) (by
          rw [List.getElem?_reverse (by omega), hlen]; exact gAt_get (by omega)) hx
        have et : t / 27 * 27 + t % 27 = t := by omega
        rw [et] at e3 e4
        have h4 : revAt n k (t / 27) = n - 1 - t / 27 := by
          unfold revAt
          by_cases h3 : t / 27 < k ∨ n ≤ t / 27 + k
          · rw [if_pos h3]
          · rw [if_neg h3]
            omega
        rw [Array.getElem?_toList, e3, e4, h4]
      · rename_i ht
        rw [List.getElem?_eq_none (by rw [recs_len, List.length_reverse]; omega)]

theorem ofS_perm {a b : List Rec} (h1 : Once a) (hp : a.Perm b) (p : Bs) : ofS a p = ofS b p := by
  have h2 : Once b := by
    unfold Once at h1 ⊢
    exact (hp.map fun x : Rec => x.path).nodup_iff.1 h1
  cases ha : ofS a p with
  | none =>
    symm
    rw [ofS_none] at ha ⊢
    intro r hr
    exact ha r (hp.mem_iff.2 hr)
  | some r =>
    have := ofS_some ha
    have hb := (ofS_mem h2).1 (hp.mem_iff.1 this.1)
    rw [this.2] at hb
    exact hb.symm
theorem aim_con {an ao : Option Addr} {nn no cn co : Nat} {needs own : List Rec} (hs1 : Short needs) (hs2 : Short own) (hn1 : nn ≤ 1000000) (hn2 : no ≤ 1000000) (H0 : Heap) (h1 : SlR H0 an nn needs) (h2 : SlR H0 ao no own) :
    CallsH Tryd.prog 36 ⟨[.slice an nn cn, .slice ao no co]⟩ H0 fun r H1 => ∃ b m, r = .map (some b) ∧ LikeM m (own ++ needs) ∧ Mp H1 b (kvR m) ∧ Ext H0 H1 := by
  refine queue_aim.ok ?_
  refine (set_con own hs2 ao no co H0 h2 hn2).mono ?_
  rintro _ H1 ⟨b, rfl, hb, m1, e1⟩
  refine ⟨_, rfl, ?_⟩
  refine (set_con needs hs1 an nn cn H1 (h1.ext e1) hn1).mono ?_
  rintro _ H2 ⟨b2, rfl, hb2, m2, e2⟩
  refine ⟨_, rfl, ?_⟩
  have hbb : b2 ≠ b := by have := m1.lt; omega
  have hmn := setM_like needs
  generalize hmm : setM needs = mn at m2 hmn
  have hml : (kvR mn).length = mn.length := by simp [kvR]
  refine (sem_range (P := Tryd.prog) (t := 47) u47 m2).mono ?_
  rintro _ H3 ⟨r, rfl, hr, e3, i3⟩
  have hrb : r ≠ b := by have := (m1.ext e2).lt; omega
  have hrb2 : r ≠ b2 := by have := m2.lt; omega
  have hr0 : H0.size ≤ r := by have := e1.size; have := e2.size; omega
  refine ⟨fun L H => ∃ (sn : List Nat) (cm : RM), L = [] ∧ Ext H0 H ∧ Iter H r b2 mn.length ⟨sn⟩ ∧ sn.Nodup ∧ (∀ i ∈ sn, i < mn.length) ∧ Mp H b (kvR cm) ∧ Mp H b2 (kvR mn) ∧ LikeM cm (own ++ sn.map (rAt mn)),
    fun _ H => mn.length + 1 - seenAt H r, ⟨[], _, rfl, (e1.trans e2).trans e3, by rw [hml] at i3; exact i3, List.nodup_nil, by simp, m1.ext (e2.trans e3), m2.ext e3, by simpa using setM_like own⟩, ?_⟩
  rintro H4 ⟨sn, cm, _, e4, i4, hd, hlt, m4, m42, hcm⟩
  have hsl := nodup_len hd hlt
  have i4' : Iter H4 r b2 (kvR mn).length ⟨sn⟩ := by rw [hml]; exact i4
  refine (sem_next (P := Tryd.prog) i4' m42).mono ?_
  rintro _ H5 (⟨rfl, rfl, hall⟩ | ⟨i, p, hp, hns, rfl, rfl⟩)
  · refine ⟨false, [], rfl, fun h => (by cases h), fun _ => ⟨b, cm, rfl, hcm.cong fun p => ?_, m4, e4⟩⟩
    have hall' : ∀ i, i < mn.length → i ∈ sn := fun i hi => by
      have := hall i (by rw [hml]; exact hi)
      simpa using this
    have hperm : (sn.map (rAt mn)).Perm (mn.map (·.2)) := by
      rw [← rAt_all mn]
      exact (perm_range hd hlt hall').map _
    have hperm2 := hperm.trans hmn.perm
    have ho : Once (sn.map (rAt mn)) := by
      have h1 := setS_once needs
      unfold Once at h1 ⊢
      exact (hperm2.map fun x : Rec => x.path).nodup_iff.2 h1
    have hok : okL (sn.map (rAt mn)) := fun x hx => setS_ok needs x (hperm2.mem_iff.1 hx)
    rw [lastO_append, lastO_append, lastO_of ho hok, ofS_perm ho hperm2, setS_of]
  · refine ⟨true, _, rfl, fun _ => ?_, fun h => (by cases h)⟩
    obtain ⟨q, hq, hqp⟩ : ∃ q, mn[i]? = some q ∧ p = (q.1, .agg (rc q.2)) := by
      unfold kvR at hp
      rw [List.getElem?_map] at hp
      cases hq : mn[i]? with
      | none => rw [hq] at hp; cases hp
      | some q => rw [hq] at hp; injection hp with hp; exact ⟨q, rfl, hp.symm⟩
    subst hqp
    have hil : i < mn.length := by
      rcases Nat.lt_or_ge i mn.length with h1 | h1
      · exact h1
      · rw [List.getElem?_eq_none h1] at hq; cases hq
    have hni : i ∉ sn := by simpa using hns
    have i5 := i4'.set ((⟨sn⟩ : Array Nat).push i)
    have m5 : Mp (setO H4 r (.mapIter (some b2) (kvR mn).length ((⟨sn⟩ : Array Nat).push i) (kvR mn).length)) b (kvR cm) := m4.setO_other (Ne.symm hrb)
    have m52 : Mp (setO H4 r (.mapIter (some b2) (kvR mn).length ((⟨sn⟩ : Array Nat).push i) (kvR mn).length)) b2 (kvR mn) := m42.setO_other (Ne.symm hrb2)
    have e5 : Ext H0 (setO H4 r (.mapIter (some b2) (kvR mn).length ((⟨sn⟩ : Array Nat).push i) (kvR mn).length)) := e4.setO hr0
    generalize setO H4 r (.mapIter (some b2) (kvR mn).length ((⟨sn⟩ : Array Nat).push i) (kvR mn).length) = H5 at i5 m5 m52 e5 ⊢
    refine ⟨_, _, heap_entry i5 m52 hp, _, rfl, _, rfl, ?_⟩
    refine st_rec _ fun g6 H6 hg6 e6 b6 => ?_
    refine st_rd b6 (rc_size _) ?_
    refine (sem_mapUpdate (P := Tryd.prog) (t := 47) (kt := 9) (et := 35) u47 u9 (m5.ext e6) q.1 (.agg (rc q.2))).mono ?_
    rintro _ H7 ⟨h7, m7⟩
    have hqr : rAt mn i = q.2 := by simp [rAt, hq]
    have hqk := hmn.ok.key q (List.mem_of_getElem? hq)
    have i7 : Iter H7 r b2 mn.length ⟨sn ++ [i]⟩ := by
      rw [h7, ← hml, show (⟨sn ++ [i]⟩ : Array Nat) = (⟨sn⟩ : Array Nat).push i by simp]
      exact (i5.ext e6).setO_other hrb
    refine ⟨⟨sn ++ [i], putM cm q.1 q.2, rfl, by rw [h7]; exact (e5.trans e6).setO hb, i7, ?_, ?_, ?_, by rw [h7]; exact (m52.ext e6).setO_other hbb, ?_⟩, ?_⟩
    · rw [List.nodup_append]
      exact ⟨hd, by simp, fun x hx y hy e => by simp at hy; rw [e, hy] at hx; exact hni hx⟩
    · intro j hj
      rcases List.mem_append.1 hj with h | h
      · exact hlt j h
      · simp at h; omega
    · rw [← kvR_put]
      exact m7
    · rw [List.map_append, List.map_singleton, hqr, ← List.append_assoc, hqk.1]
      exact hcm.put hqk.2
    · show mn.length + 1 - seenAt H7 r < mn.length + 1 - seenAt H4 r
      rw [seenAt_of i7, seenAt_of i4]
      simp
      omega
end Go.Proofs.YtoemipeomingaaaDoor
