/- Contracts of the vectors' functions: bumps, and what the laws make of them. -/
import Derived.Test.YtkidefjiaknefaaR1Con
namespace Go.Proofs.Ytkidefjiaknefaa
open Go Go.V

theorem build24 : PureV Try.prog (Instr.build 24 ⟨[]⟩) (.agg (vc zeroV)) := fun w => by kernel_rfl

/-- the tests of Bump, decided -/
theorem bump_first (dev time : Int) : (cond (cond (decide (dev < 1)) true (decide (dev > 16))) true (decide (time < 0))) = decide (dev < 1 ∨ 16 < dev ∨ time < 0) := by
  by_cases h1 : dev < 1 <;> by_cases h2 : dev > 16 <;> by_cases h3 : time < 0 <;> simp [h1, h2, h3]
theorem bump_second (x time : Int) : (cond (x == 4294967295) true (decide (time > 4294967295))) = decide (x = 4294967295 ∨ 4294967295 < time) := by
  by_cases h1 : x = 4294967295 <;> by_cases h2 : time > 4294967295 <;> simp [h1, h2]

def bumpR (v : Vec) (dev time : Int) : Value := .tuple ⟨[.agg (vc (bumpV v dev time).1), .int .i64 (bumpV v dev time).2]⟩

theorem Bump_con (v : Vec) (hv : VOk v) (dev time : Int) (ht : time ≤ 9223372036854775807) (H0 : Heap) :
    CallsH Try.prog 9 ⟨[.agg (vc v), .int .i64 dev, .int .i64 time]⟩ H0 fun r H1 => r = bumpR v dev time ∧ Ext H0 H1 := by
  refine vector_Bump.ok ?_
  refine st_new fun g3 H1 hg3 e1 b3 => ?_
  refine st_new fun g6 H2 hg6 e2 b6 => ?_
  rw [zc24] at b6
  have hne : g3 ≠ g6 := by have := b3.lt; omega
  have b3 := b3.ext e2
  have hg6 : H0.size ≤ g6 := by have := e1.size; omega
  have e2 := e1.trans e2
  rw [bump_first]
  have out : ∀ (H : Heap) (u : Vec) (n : Int), Blk H g6 24 (vc zeroV) → Ext H0 H → VOk u → bumpV v dev time = (u, n) →
      ∃ H3, (vc u).size = 16 ∧ wrN H ⟨g6, 0, none⟩ (vc u).toList 0 = some H3 ∧ ∃ csres, RdN H3 ⟨g6, 0, none⟩ 16 csres ∧
        ((Value.tuple ⟨[.agg csres, .int .i64 n]⟩) = bumpR v dev time ∧ Ext H0 H3) := by
    intro H u n hb he hu heq
    refine st_wr hb (by rw [vc_size, hu.1]) (by rw [vc_size, zeroV_ok.1]) (vc_one _) fun H3 h3 b3 => ?_
    refine st_rd b3 (by rw [vc_size, hu.1]) ⟨?_, ?_⟩
    · unfold bumpR; rw [heq]
    · rw [h3]; exact he.upd hg6
  refine ⟨fun h => ?_, fun h => ?_⟩
  · have h := of_decide_eq_true h
    exact ⟨_, build24, out H2 zeroV 2 b6 e2 zeroV_ok (by unfold bumpV; rw [if_pos h])⟩
  · have h := of_decide_eq_false h
    have hw : IntKind.wrap .i64 (dev - 1) = ((dev - 1).toNat : Int) := by rw [wrap_i64 (by omega)]; omega
    have hk : (dev - 1).toNat < 16 := by omega
    obtain ⟨x, hx, hxb⟩ := get_some hv hk
    have hg : v[(dev - 1).toNat]?.getD 0 = x := by rw [hx]; rfl
    rw [hw]
    refine ⟨⟨by omega, by omega⟩, _, rfl, x, b3.vcell hx, ?_⟩
    rw [bump_second]
    refine ⟨fun h2 => ?_, fun h2 => ?_⟩
    · have h2 := of_decide_eq_true h2
      refine ⟨_, build24, out H2 zeroV 13 b6 e2 zeroV_ok ?_⟩
      unfold bumpV
      rw [if_neg h, hg, if_pos (by omega)]
    · have h2 := of_decide_eq_false h2
      have e : (if (IntKind.wrap .u32 time) > (IntKind.wrap .u32 ((x : Int) + 1)) then (IntKind.wrap .u32 time) else (IntKind.wrap .u32 ((x : Int) + 1))) = ((max (x + 1) time.toNat : Nat) : Int) := by
        rw [wrap_u32 (x := time) (by omega), wrap_u32 (by omega)]
        split <;> omega
      have hb : bumpV v dev time = (v.set (dev - 1).toNat (max (x + 1) time.toNat), 0) := by
        unfold bumpV
        rw [if_neg h, hg, if_neg (by omega)]
      have hok := bumpV_ok hv dev time
      rw [hb] at hok
      have hwr := b3.vset (by rw [hv.1]; exact hk) (max (x + 1) time.toNat)
      rw [← e] at hwr
      exact ⟨_, rfl, x, b3.vcell hx, _, rfl, _, hwr, st_rd b3.upd_same (by rw [vc_size, hok.1]) (out _ _ 0 (b6.upd_other (Ne.symm hne)) (e2.upd hg3) hok hb)⟩

theorem rBump_con (v : Vec) (hv : VOk v) (dev time : Int) (ht : time ≤ 9223372036854775807) (H0 : Heap) :
    CallsH Try.prog 10 ⟨[.agg (vc v), .int .i64 dev, .int .i64 time]⟩ H0 fun r H1 => r = bumpR v dev time ∧ Ext H0 H1 := by
  refine caravanref03_Bump.ok ?_
  refine st_new fun g3 H1 hg3 e1 b3 => ?_
  refine st_new fun g6 H2 hg6 e2 b6 => ?_
  rw [zc24] at b6
  have b3 := b3.ext e2
  have hg6 : H0.size ≤ g6 := by have := e1.size; omega
  have e2 := e1.trans e2
  rw [bump_first]
  have out : ∀ (H : Heap) (u : Vec) (n : Int), Blk H g6 24 (vc zeroV) → Ext H0 H → VOk u → bumpV v dev time = (u, n) →
      ∃ H3, (vc u).size = 16 ∧ wrN H ⟨g6, 0, none⟩ (vc u).toList 0 = some H3 ∧ ∃ csres, RdN H3 ⟨g6, 0, none⟩ 16 csres ∧
        ((Value.tuple ⟨[.agg csres, .int .i64 n]⟩) = bumpR v dev time ∧ Ext H0 H3) := by
    intro H u n hb he hu heq
    refine st_wr hb (by rw [vc_size, hu.1]) (by rw [vc_size, zeroV_ok.1]) (vc_one _) fun H3 h3 b3 => ?_
    refine st_rd b3 (by rw [vc_size, hu.1]) ⟨?_, ?_⟩
    · unfold bumpR; rw [heq]
    · rw [h3]; exact he.upd hg6
  refine ⟨fun h => ?_, fun h => ?_⟩
  · have h := of_decide_eq_true h
    exact ⟨_, build24, out H2 zeroV 2 b6 e2 zeroV_ok (by unfold bumpV; rw [if_pos h])⟩
  · have h := of_decide_eq_false h
    have hw : IntKind.wrap .i64 (dev - 1) = ((dev - 1).toNat : Int) := by rw [wrap_i64 (by omega)]; omega
    have hk : (dev - 1).toNat < 16 := by omega
    obtain ⟨x, hx, hxb⟩ := get_some hv hk
    have hg : v[(dev - 1).toNat]?.getD 0 = x := by rw [hx]; rfl
    have hwx : IntKind.wrap .i64 (x : Int) = x := wrap_i64 (by omega)
    have hwx1 : IntKind.wrap .i64 ((x : Int) + 1) = ((x + 1 : Nat) : Int) := by rw [wrap_i64 (by omega)]; omega
    rw [hw]
    refine ⟨⟨by omega, by omega⟩, x, b3.vcell hx, ?_⟩
    rw [hwx, bump_second, hwx1]
    refine ⟨fun h2 => ?_, fun h2 => ?_⟩
    · have h2 := of_decide_eq_true h2
      refine ⟨_, build24, out H2 zeroV 13 b6 e2 zeroV_ok ?_⟩
      unfold bumpV
      rw [if_neg h, hg, if_pos (by omega)]
    · have h2 := of_decide_eq_false h2
      have hb : bumpV v dev time = (v.set (dev - 1).toNat (max (x + 1) time.toNat), 0) := by
        unfold bumpV
        rw [if_neg h, hg, if_neg (by omega)]
      have hok := bumpV_ok hv dev time
      rw [hb] at hok
      refine st_rd b3 (by rw [vc_size, hv.1]) ?_
      refine st_new fun g9 H5 hg9 e5 b9 => ?_
      refine st_wr b9 (by rw [vc_size, hv.1]) rfl (vc_one _) fun H6 h6 b9 => ?_
      have hne9 : g6 ≠ g9 := by have := b6.lt; omega
      have b6 : Blk H6 g6 24 (vc zeroV) := by rw [h6]; exact (b6.ext e5).upd_other hne9
      have hg9 : H0.size ≤ g9 := by have := e2.size; omega
      have e6 : Ext H0 H6 := by rw [h6]; exact (e2.trans e5).upd hg9
      have fin : ∀ (n : Int), n = ((max (x + 1) time.toNat : Nat) : Int) → ∃ H7, wr1 H6 (Addr.add ⟨g9, 0, none⟩ (Int.toNat ((dev - 1).toNat : Int) * 1)) (.int .u32 n) = some H7 ∧ ∃ cs49, RdN H7 ⟨g9, 0, none⟩ 16 cs49 ∧
          ∃ H8, cs49.size = 16 ∧ wrN H7 ⟨g6, 0, none⟩ cs49.toList 0 = some H8 ∧ ∃ csres, RdN H8 ⟨g6, 0, none⟩ 16 csres ∧ ((Value.tuple ⟨[.agg csres, .int .i64 0]⟩) = bumpR v dev time ∧ Ext H0 H8) := by
        intro n hn
        refine ⟨_, by rw [hn]; exact b9.vset (by rw [hv.1]; exact hk) _, ?_⟩
        exact st_rd b9.upd_same (by rw [vc_size, hok.1]) (out _ _ 0 (b6.upd_other hne9) (e6.upd hg9) hok hb)
      refine ⟨fun h3 => ⟨⟨by omega, by omega⟩, fin _ ?_⟩, fun h3 => ⟨⟨by omega, by omega⟩, fin _ ?_⟩⟩
      · simp at h3
        rw [wrap_u32 (by omega)]
        omega
      · simp at h3
        rw [wrap_u32 (by omega)]
        omega

/-- a slice of counters -/
def SlU (H : Heap) (a : Option Addr) (n : Nat) (us : List Nat) : Prop :=
  us.length = n ∧ (0 < n → ∃ ad, a = some ad ∧ ∀ k x, us[k]? = some x → cellAt H (Addr.add ad (k * 1)) = some (.int .u32 ((x : Nat) : Int)))
theorem SlU.ext {H H' : Heap} {a : Option Addr} {n : Nat} {us : List Nat} (h : SlU H a n us) (e : Ext H H') : SlU H' a n us :=
  ⟨h.1, fun hn => let ⟨ad, h1, h2⟩ := h.2 hn; ⟨ad, h1, fun k x hx => e.cell (h2 k x hx)⟩⟩
theorem flat_ones : ∀ us : List Nat, (us.map fun u => Value.int .u32 ((u : Nat) : Int)).flatMap (fun v => v.cells.toList) = us.map fun u => Value.int .u32 ((u : Nat) : Int)
  | [] => rfl
  | y :: r => by rw [List.map_cons, List.flatMap_cons, flat_ones r]; rfl
theorem mk_counters (us : List Nat) (hn : us.length ≤ 1000) (H : Heap) (ps : List (Nat × Value)) (hps : ps = ((us.map fun u => Value.int .u32 ((u : Nat) : Int)).zipIdx 0).map fun x => (x.2, x.1)) {n : Nat} (hln : us.length = n) :
    SemH Try.prog (Instr.buildSlice 48 n ⟨ps⟩) H fun v H1 => ∃ g, v = .slice (some ⟨g, 0, none⟩) n n ∧ Ext H H1 ∧ SlU H1 (some ⟨g, 0, none⟩) n us := by
  refine (sem_buildSlice (P := Try.prog) tab_ok (t := 48) (e := 22) (n := n) rfl rfl (us.map fun u => Value.int .u32 ((u : Nat) : Int)) ps hps H (by simpa using hln) (fun v hv => ?_) ?_).mono fun v H1 ⟨g, h1, h2, h3, h4⟩ => ⟨g, h1, h3, hln, fun _ => ⟨_, rfl, fun k x hx => ?_⟩⟩
  · simp at hv
    obtain ⟨u, _, rfl⟩ := hv
    rfl
  · show n * 1 ≤ 16777216
    omega
  · rw [h4.cellA, Nat.zero_add, Nat.mul_one]
    rw [flat_ones]
    simp [hx]
def ofV (us : List Nat) : Vec := us ++ zeroV.drop us.length
theorem of_con (us : List Nat) (hb : ∀ x ∈ us, x < 4294967296) (hn : us.length ≤ 16) (a : Option Addr) (n c : Nat) (H0 : Heap) (hs : SlU H0 a n us) :
    CallsH Try.prog 21 ⟨[.slice a n c]⟩ H0 fun r H1 => r = .agg (vc (ofV us)) ∧ Ext H0 H1 := by
  have hln := hs.1
  refine caravanlaw03_of.ok ?_
  refine st_new fun g2 H1 hg2 e1 b2 => ?_
  refine st_new fun g3 H2 hg3 e2 b3 => ?_
  rw [zc24] at b2 b3
  have hne : g2 ≠ g3 := by have := b2.lt; omega
  have b2 := b2.ext e2
  have hg3 : H0.size ≤ g3 := by have := e1.size; omega
  have e2 := e1.trans e2
  refine ⟨LI fun i H => ∃ k : Nat, i = k ∧ k ≤ n ∧ Ext H0 H ∧ Blk H g2 24 (vc zeroV) ∧ Blk H g3 24 (vc (us.take k ++ zeroV.drop k)), LM fun i => ((n : Int) - i).toNat, ⟨⟨_, rfl⟩, 0, rfl, by omega, e2, b2, b3⟩, ?_⟩
  rintro i H3 ⟨k, rfl, hk, e3, b2, b3⟩
  have hlen : (us.take k ++ zeroV.drop k).length = 16 := by simp [zeroV]; omega
  refine ⟨fun h => ?_, fun h => ?_⟩
  · have hkn : k < us.length := by
      by_cases h1 : (k : Int) < (n : Int)
      · omega
      · rw [decide_eq_false h1] at h; cases h
    obtain ⟨ad, ha, hr⟩ := hs.2 (by omega)
    refine ⟨ad, ⟨ha, by omega, by omega⟩, us[k], by rw [toNat_cast]; exact e3.cell (hr k _ (List.getElem?_eq_getElem hkn)), ⟨by omega, by omega⟩, _, b3.vset (by rw [hlen]; omega) _, ⟨_, rfl⟩, ⟨k + 1, ?_, by omega, e3.upd hg3, b2.upd_other hne, ?_⟩, ?_⟩
    · rw [wrap_i64 (by omega)]; omega
    · have : (us.take k ++ zeroV.drop k).set k us[k] = us.take (k + 1) ++ zeroV.drop (k + 1) := by
        have hl : (us.take k).length = k := by simp; omega
        rw [List.set_append_right _ _ (by omega), hl, Nat.sub_self, List.drop_eq_getElem_cons (show k < zeroV.length by simp [zeroV]; omega), List.set_cons_zero, List.take_succ_eq_append_getElem hkn, List.append_assoc]
        rfl
      rw [← this]
      exact b3.upd_same
    · show ((n : Int) - IntKind.wrap .i64 ((k : Int) + 1)).toNat < ((n : Int) - (k : Int)).toNat
      rw [wrap_i64 (by omega)]
      omega
  · have hkn : k = us.length := by
      refine Classical.byContradiction fun hne => ?_
      have h1 : (k : Int) < (n : Int) := by omega
      have h2 : (k : Int) < 16 := by omega
      rw [decide_eq_true h1, decide_eq_true h2] at h
      cases h
    subst hkn
    rw [List.take_length] at b3 hlen
    refine st_rd b3 (by rw [vc_size, hlen]) ?_
    refine st_wr b2 (by rw [vc_size, hlen]) (by rw [vc_size, zeroV_ok.1]) (vc_one _) fun H5 h5 b5 => ?_
    refine st_rd b5 (by rw [vc_size, hlen]) ⟨rfl, ?_⟩
    rw [h5]
    exact e3.upd hg2
/-- 'of' of written counters -/
theorem of_mk (us : List Nat) (hb : ∀ x ∈ us, x < 4294967296) (hn : us.length ≤ 16) (H : Heap) {n : Nat} (hln : us.length = n) (ps : List (Nat × Value)) (hps : ps = ((us.map fun u => Value.int .u32 ((u : Nat) : Int)).zipIdx 0).map fun x => (x.2, x.1))
    {F : Value → Heap → Prop} (h : ∀ H2, Ext H H2 → F (.agg (vc (ofV us))) H2) :
    SemH Try.prog (Instr.buildSlice 48 n ⟨ps⟩) H fun r H1 => ∃ (a : Option Addr) (len cap : Nat), r = .slice a len cap ∧ CallsH Try.prog 21 ⟨[.slice a len cap]⟩ H1 fun r2 H2 => F r2 H2 := by
  refine (mk_counters us (by omega) H ps hps hln).mono ?_
  rintro _ H1 ⟨g, rfl, e1, hs⟩
  refine ⟨_, _, _, rfl, (of_con us hb hn _ _ _ _ hs).mono ?_⟩
  rintro _ H2 ⟨rfl, e2⟩
  exact h H2 (e1.trans e2)
theorem ofV_ok {us : List Nat} (hb : ∀ x ∈ us, x < 4294967296) (hn : us.length ≤ 16) : VOk (ofV us) := by
  refine ⟨by simp [ofV, zeroV]; omega, fun x hx => ?_⟩
  unfold ofV at hx
  rcases List.mem_append.1 hx with h | h
  · exact hb x h
  · exact zeroV_ok.2 x (List.mem_of_mem_drop h)

def bumpsB (v : Vec) (dev time : Int) (want : Vec) : Bool := (bumpV v dev time).2 == 0 && (bumpV v dev time).1 == want
theorem bumps_con (v want : Vec) (hv : VOk v) (hw : VOk want) (dev time : Int) (ht : time ≤ 9223372036854775807) (H0 : Heap) :
    CallsH Try.prog 20 ⟨[.agg (vc v), .int .i64 dev, .int .i64 time, .agg (vc want)]⟩ H0 fun r H1 => r = .bool (bumpsB v dev time want) ∧ Ext H0 H1 := by
  have hok := bumpV_ok hv dev time
  refine caravanlaw03_bumps.ok ?_
  refine st_new fun g4 H1 hg4 e1 b4 => ?_
  refine st_new fun g7 H2 hg7 e2 b7 => ?_
  have b4 := b4.ext e2
  have e2 := e1.trans e2
  refine st_rd b4 (by rw [vc_size, hv.1]) ?_
  refine (Bump_con v hv dev time ht _).mono ?_
  rintro _ H3 ⟨rfl, e3⟩
  refine ⟨_, _, rfl, ?_⟩
  have b7 := b7.ext e3
  have e3 := e2.trans e3
  refine st_new fun g9 H4 hg9 e4 b9 => ?_
  have hne : g7 ≠ g9 := by have := b7.lt; omega
  refine st_wr b9 (by rw [vc_size, hok.1]) rfl (vc_one _) fun H5 h5 b9 => ?_
  have b7 : Blk H5 g7 24 (vc want) := by rw [h5]; exact (b7.ext e4).upd_other hne
  refine st_rdc b9 (by rw [vc_size, hok.1]) (st_rdc b7 (by rw [vc_size, hw.1]) ⟨_, fun _ => eqV hok.1 hw.1, ?_, ?_⟩)
  · unfold bumpsB
    cases ((bumpV v dev time).2 == 0) <;> rfl
  · rw [h5]; exact (e3.trans e4).upd (by have := e3.size; omega)
def noB (v : Vec) (dev time want : Int) : Bool := (bumpV v dev time).2 == want && (bumpV v dev time).1 == zeroV
theorem no_con (v : Vec) (hv : VOk v) (dev time want : Int) (ht : time ≤ 9223372036854775807) (H0 : Heap) :
    CallsH Try.prog 22 ⟨[.agg (vc v), .int .i64 dev, .int .i64 time, .int .i64 want]⟩ H0 fun r H1 => r = .bool (noB v dev time want) ∧ Ext H0 H1 := by
  have hok := bumpV_ok hv dev time
  refine caravanlaw03_no.ok ?_
  refine st_new fun g4 H1 hg4 e1 b4 => ?_
  refine st_rd b4 (by rw [vc_size, hv.1]) ?_
  refine (Bump_con v hv dev time ht _).mono ?_
  rintro _ H3 ⟨rfl, e3⟩
  refine ⟨_, _, rfl, ?_⟩
  have e3 := e1.trans e3
  refine st_new fun g9 H4 hg9 e4 b9 => ?_
  refine st_wr b9 (by rw [vc_size, hok.1]) rfl (vc_one _) fun H5 h5 b9 => ?_
  refine st_rdc b9 (by rw [vc_size, hok.1]) ⟨_, fun _ => build24, _, fun _ => eqV hok.1 zeroV_ok.1, ?_, ?_⟩
  · unfold noB
    cases ((bumpV v dev time).2 == want) <;> rfl
  · rw [h5]; exact (e3.trans e4).upd (by have := e3.size; omega)

theorem awake_con (H0 : Heap) : CallsH Try.prog 11 ⟨[]⟩ H0 fun r H1 => r = .bool true ∧ Ext H0 H1 := by
  refine caravanlaw03_awake.ok ?_
  have o2 : ∀ x y : Nat, x < 4294967296 → y < 4294967296 → VOk (ofV [x, y]) := fun x y hx hy => ofV_ok (by simp [hx, hy]) (by simp)
  refine of_mk [0, 5] (by decide) (by decide) H0 rfl _ rfl fun H1 e1 => ⟨_, rfl, ?_⟩
  refine of_mk [0, 6] (by decide) (by decide) H1 rfl _ rfl fun H2 e2 => ⟨_, rfl, ?_⟩
  refine (bumps_con (ofV [0, 5]) (ofV [0, 6]) (o2 0 5 (by decide) (by decide)) (o2 0 6 (by decide) (by decide)) 2 3 (by decide) H2).mono ?_
  rintro _ H3 ⟨rfl, e3⟩
  have e3 := (e1.trans e2).trans e3
  refine ⟨_, rfl, fun _ => ?_, fun h => absurd h (by decide)⟩
  refine of_mk [1, 0] (by decide) (by decide) H3 rfl _ rfl fun H4 e4 => ⟨_, rfl, ?_⟩
  refine of_mk [0, 1] (by decide) (by decide) H4 rfl _ rfl fun H5 e5 => ⟨_, rfl, ?_⟩
  refine (Cmp_con (ofV [1, 0]) (ofV [0, 1]) (o2 1 0 (by decide) (by decide)) (o2 0 1 (by decide) (by decide)) H5).mono ?_
  rintro _ H6 ⟨rfl, e6⟩
  have e6 := ((e3.trans e4).trans e5).trans e6
  refine ⟨_, rfl, fun _ => ?_, fun h => absurd h (by decide)⟩
  refine of_mk [1, 5] (by decide) (by decide) H6 rfl _ rfl fun H7 e7 => ⟨_, rfl, ?_⟩
  refine of_mk [3, 2] (by decide) (by decide) H7 rfl _ rfl fun H8 e8 => ⟨_, rfl, ?_⟩
  refine (mk_vecs [ofV [1, 5], ofV [3, 2]] (by simp [o2]) (by simp) H8 _ rfl rfl).mono ?_
  rintro _ H9 ⟨g, rfl, e9, hs⟩
  refine ⟨_, _, _, rfl, ?_⟩
  refine (Merge_con [ofV [1, 5], ofV [3, 2]] (by simp [o2]) _ _ _ _ hs (by show 2 ≤ 1000000000; omega)).mono ?_
  rintro _ H10 ⟨rfl, e10⟩
  refine ⟨_, rfl, ?_⟩
  have e10 := (((e6.trans e7).trans e8).trans e9).trans e10
  refine of_mk [3, 5] (by decide) (by decide) H10 rfl _ rfl fun H11 e11 => ⟨_, rfl, ?_⟩
  refine ⟨_, eqV (mergeL_ok (by simp [o2])).1 (o2 3 5 (by decide) (by decide)).1, fun _ => ?_, fun h => absurd h (by decide)⟩
  refine of_mk [1, 5] (by decide) (by decide) H11 rfl _ rfl fun H12 e12 => ⟨_, rfl, ?_⟩
  refine (Sum_con (ofV [1, 5]) (o2 1 5 (by decide) (by decide)) H12).mono ?_
  rintro _ H13 ⟨rfl, e13⟩
  exact ⟨_, rfl, rfl, ((e10.trans e11).trans e12).trans e13⟩
end Go.Proofs.Ytkidefjiaknefaa
