/- Contracts of the vectors' functions. -/
import Derived.Test.YtkidefjiaknefaaR1Vc
import Derived.Test.YtkidefjiaknefaaVcgN
namespace Go.Proofs.Ytkidefjiaknefaa
open Go Go.V

theorem eqV {u v : Vec} (hu : u.length = 16) (hv : v.length = 16) : EqA Try.prog 24 (vc u) (vc v) (u == v) := by
  have h := eqA_ints (P := Try.prog) tab_ok (t := 24) (e := 22) (n := 16) (k := .u32) rfl rfl rfl rfl (by kernel_rfl) (u.map fun n => ((n : Nat) : Int)) (v.map fun n => ((n : Nat) : Int)) (by simpa using hu) (by simpa using hv)
  rw [← vc_ints, ← vc_ints] at h
  have : ((u.map fun n => ((n : Nat) : Int)) == (v.map fun n => ((n : Nat) : Int))) = (u == v) := by
    rw [Bool.eq_iff_iff]
    simp only [beq_iff_eq]
    exact List.map_inj_right (fun a b hab => by omega)
  rwa [this] at h
theorem zc24 : zc 24 = vc zeroV := rfl

def LI (f : Int → Heap → Prop) : List Value → Heap → Prop
  | [.int _ i], H => f i H
  | _, _ => False
def LM (f : Int → Nat) : List Value → Heap → Nat
  | [.int _ i], _ => f i
  | _, _ => 0
def LI2 (f : Int → Int → Heap → Prop) : List Value → Heap → Prop
  | [.int _ i, .int _ j], H => f i j H
  | _, _ => False
def LM2 (f : Int → Int → Nat) : List Value → Heap → Nat
  | [.int _ i, .int _ j], _ => f i j
  | _, _ => 0

theorem Sum_con (v : Vec) (hv : VOk v) (H0 : Heap) : CallsH Try.prog 15 ⟨[.agg (vc v)]⟩ H0 fun r H1 => r = .int .u64 (sumV v : Nat) ∧ Ext H0 H1 := by
  refine vector_Sum.ok ?_
  refine st_new fun g1 H1 hg e1 b1 => ?_
  refine st_rd b1 (by rw [vc_size, hv.1]) ?_
  refine ⟨LI2 fun s i H => ∃ k : Nat, i = k ∧ k ≤ 16 ∧ s = ((v.take k).sum : Nat) ∧ H = H1, LM2 fun _ i => (16 - i).toNat, ⟨⟨_, rfl⟩, ⟨_, rfl⟩, 0, rfl, by omega, by simp, rfl⟩, ?_⟩
  rintro s i H2 ⟨k, rfl, hk, rfl, rfl⟩
  refine ⟨fun h => ?_, fun h => ?_⟩
  · have hk' : k < v.length := by rw [hv.1]; simp at h; omega
    have h1 := sum_take_le v hv k
    have h2 := hv.2 _ (List.getElem_mem hk')
    have h3 := sum_take_succ v k hk'
    have h4 := sum_take_le v hv (k + 1)
    refine ⟨(v[k] : Nat), ⟨by omega, by rw [hv.1] at hk'; omega, ?_⟩, ⟨_, rfl⟩, ⟨_, rfl⟩, ⟨k + 1, ?_, by rw [hv.1] at hk'; omega, ?_, rfl⟩, ?_⟩
    · rw [toNat_cast, Nat.mul_one, vc_get, List.getElem?_eq_getElem hk']; rfl
    · rw [wrap_i64 (by omega)]; omega
    · rw [wrap_u64 (x := ((v[k] : Nat) : Int)) (by omega), wrap_u64 (by omega), h3]; omega
    · show (16 - IntKind.wrap .i64 ((k : Int) + 1)).toNat < (16 - (k : Int)).toNat
      rw [wrap_i64 (by omega)]
      rw [hv.1] at hk'
      omega
  · have : k = 16 := by simp at h; omega
    subst this
    rw [List.take_of_length_le (by rw [hv.1]; omega)]
    exact ⟨rfl, e1⟩

theorem rSum_con (v : Vec) (hv : VOk v) (H0 : Heap) : CallsH Try.prog 19 ⟨[.agg (vc v)]⟩ H0 fun r H1 => r = .int .u64 (sumV v : Nat) ∧ Ext H0 H1 := by
  refine caravanref03_Sum.ok ?_
  refine st_new fun g1 H1 hg e1 b1 => ?_
  refine ⟨LI2 fun s i H => ∃ k : Nat, i = k ∧ k ≤ 16 ∧ s = ((v.take k).sum : Nat) ∧ H = H1, LM2 fun _ i => (16 - i).toNat, ⟨⟨_, rfl⟩, ⟨_, rfl⟩, 0, rfl, by omega, by simp, rfl⟩, ?_⟩
  rintro s i H2 ⟨k, rfl, hk, rfl, rfl⟩
  refine ⟨fun h => ?_, fun h => ?_⟩
  · have hk' : k < v.length := by rw [hv.1]; simp at h; omega
    have h1 := sum_take_le v hv k
    have h2 := hv.2 _ (List.getElem_mem hk')
    have h3 := sum_take_succ v k hk'
    have h4 := sum_take_le v hv (k + 1)
    refine ⟨⟨by omega, by rw [hv.1] at hk'; omega⟩, (v[k] : Nat), b1.vcell (List.getElem?_eq_getElem hk'), ⟨_, rfl⟩, ⟨_, rfl⟩, ⟨k + 1, ?_, by rw [hv.1] at hk'; omega, ?_, rfl⟩, ?_⟩
    · rw [wrap_i64 (by omega)]; omega
    · rw [wrap_u64 (x := ((v[k] : Nat) : Int)) (by omega), wrap_u64 (by omega), h3]; omega
    · show (16 - IntKind.wrap .i64 ((k : Int) + 1)).toNat < (16 - (k : Int)).toNat
      rw [wrap_i64 (by omega)]
      rw [hv.1] at hk'
      omega
  · have : k = 16 := by simp at h; omega
    subst this
    rw [List.take_of_length_le (by rw [hv.1]; omega)]
    exact ⟨rfl, e1⟩

def leastR (v : Vec) : Value := match leastV v with
  | some k => .tuple ⟨[.int .i64 (((k : Nat) : Int) + 1), .bool true]⟩
  | none => .tuple ⟨[.int .i64 0, .bool false]⟩
theorem Least_con (v : Vec) (hv : VOk v) (H0 : Heap) : CallsH Try.prog 16 ⟨[.agg (vc v)]⟩ H0 fun r H1 => r = leastR v ∧ Ext H0 H1 := by
  refine vector_Least.ok ?_
  refine st_new fun g1 H1 hg e1 b1 => ?_
  refine st_rd b1 (by rw [vc_size, hv.1]) ?_
  refine ⟨LI fun i H => ∃ k : Nat, i = k ∧ k ≤ 16 ∧ (∀ j, j < k → v[j]? = some 0) ∧ H = H1, LM fun i => (16 - i).toNat, ⟨⟨_, rfl⟩, 0, rfl, by omega, fun j hj => by omega, rfl⟩, ?_⟩
  rintro i H2 ⟨k, rfl, hk, hz, rfl⟩
  refine ⟨fun h => ?_, fun h => ?_⟩
  · have hk' : k < v.length := by rw [hv.1]; simp at h; omega
    refine ⟨(v[k] : Nat), ⟨by omega, by rw [hv.1] at hk'; omega, ?_⟩, fun h2 => ?_, fun h2 => ⟨⟨_, rfl⟩, ⟨k + 1, ?_, by rw [hv.1] at hk'; omega, ?_, rfl⟩, ?_⟩⟩
    · rw [toNat_cast, Nat.mul_one, vc_get, List.getElem?_eq_getElem hk']; rfl
    · refine ⟨?_, e1⟩
      unfold leastR
      rw [leastV_at hk' hz (by simp at h2; omega), wrap_i64 (by omega)]
    · rw [wrap_i64 (by omega)]; omega
    · intro j hj
      rcases Nat.lt_or_ge j k with hl | hl
      · exact hz j hl
      · have : j = k := by omega
        subst this
        rw [List.getElem?_eq_getElem hk']
        simp at h2
        rw [h2]
    · show (16 - IntKind.wrap .i64 ((k : Int) + 1)).toNat < (16 - (k : Int)).toNat
      rw [wrap_i64 (by omega)]
      rw [hv.1] at hk'
      omega
  · have : k = 16 := by simp at h; omega
    subst this
    refine ⟨?_, e1⟩
    unfold leastR
    rw [leastV_none (fun j hj => hz j (by rw [hv.1] at hj; omega))]
theorem rLeast_con (v : Vec) (hv : VOk v) (H0 : Heap) : CallsH Try.prog 17 ⟨[.agg (vc v)]⟩ H0 fun r H1 => r = leastR v ∧ Ext H0 H1 := by
  refine caravanref03_Least.ok ?_
  refine st_new fun g1 H1 hg e1 b1 => ?_
  refine ⟨LI fun i H => ∃ k : Nat, i = k ∧ k ≤ 16 ∧ (∀ j, j < k → v[j]? = some 0) ∧ H = H1, LM fun i => (16 - i).toNat, ⟨⟨_, rfl⟩, 0, rfl, by omega, fun j hj => by omega, rfl⟩, ?_⟩
  rintro i H2 ⟨k, rfl, hk, hz, rfl⟩
  refine ⟨fun h => ?_, fun h => ?_⟩
  · have hk' : k < v.length := by rw [hv.1]; simp at h; omega
    refine ⟨⟨by omega, by rw [hv.1] at hk'; omega⟩, (v[k] : Nat), b1.vcell (List.getElem?_eq_getElem hk'), fun h2 => ?_, fun h2 => ⟨⟨_, rfl⟩, ⟨k + 1, ?_, by rw [hv.1] at hk'; omega, ?_, rfl⟩, ?_⟩⟩
    · refine ⟨?_, e1⟩
      unfold leastR
      rw [leastV_at hk' hz (by simp at h2; omega), wrap_i64 (by omega)]
    · rw [wrap_i64 (by omega)]; omega
    · intro j hj
      rcases Nat.lt_or_ge j k with hl | hl
      · exact hz j hl
      · have : j = k := by omega
        subst this
        rw [List.getElem?_eq_getElem hk']
        simp at h2
        rw [h2]
    · show (16 - IntKind.wrap .i64 ((k : Int) + 1)).toNat < (16 - (k : Int)).toNat
      rw [wrap_i64 (by omega)]
      rw [hv.1] at hk'
      omega
  · have : k = 16 := by simp at h; omega
    subst this
    refine ⟨?_, e1⟩
    unfold leastR
    rw [leastV_none (fun j hj => hz j (by rw [hv.1] at hj; omega))]

theorem Merge_con (l : List Vec) (hl : ∀ v ∈ l, VOk v) (a : Option Addr) (n c : Nat) (H0 : Heap) (hs : SlV H0 a n l) (hn : n ≤ 1000000000) :
    CallsH Try.prog 12 ⟨[.slice a n c]⟩ H0 fun r H1 => r = .agg (vc (mergeL l)) ∧ Ext H0 H1 := by
  have hln := hs.1
  refine vector_Merge.ok ?_
  refine st_new fun g2 H1 hg2 e1 b1 => ?_
  rw [zc24] at b1
  refine ⟨LI fun i H => ∃ k : Nat, i = k ∧ k ≤ n ∧ Ext H0 H ∧ Blk H g2 24 (vc (mergeL (l.take k))), LM fun i => ((n : Int) - i).toNat, ⟨⟨_, rfl⟩, 0, rfl, by omega, e1, b1⟩, ?_⟩
  rintro i H2 ⟨k, rfl, hk, e2, b2⟩
  have hmk : VOk (mergeL (l.take k)) := mergeL_ok fun v hv => hl v (List.mem_of_mem_take hv)
  refine ⟨fun h => ?_, fun h => ?_⟩
  · have hkn : k < l.length := by simp at h; omega
    have hv := hl _ (List.getElem_mem hkn)
    obtain ⟨ad, ha, hr⟩ := hs.2 (by omega)
    refine ⟨ad, ⟨ha, by omega, by omega⟩, vc l[k], ?_, ?_⟩
    · rw [toNat_cast]; exact (hr k hkn).ext e2
    refine st_new fun g4 H3 hg4 e3 b4 => ?_
    refine st_wr b4 (by rw [vc_size, hv.1]) rfl (vc_one _) fun H4 h4 b4' => ?_
    have b2' : Blk H4 g2 24 (vc (mergeL (l.take k))) := by rw [h4]; exact (b2.ext e3).upd_other (by have := b2.lt; omega)
    have e4 : Ext H0 H4 := by rw [h4]; exact (e2.trans e3).upd (by have := e2.size; omega)
    have hne : g2 ≠ g4 := by have := b2.lt; omega
    refine ⟨LI fun j H => ∃ q : Nat, j = q ∧ q ≤ 16 ∧ Ext H0 H ∧ Blk H g2 24 (vc (mix (mergeL (l.take k)) l[k] q)) ∧ Blk H g4 24 (vc l[k]), LM fun j => (16 - j).toNat, ⟨⟨_, rfl⟩, 0, rfl, by omega, e4, by rw [mix_zero]; exact b2', b4'⟩, ?_⟩
    rintro j H5 ⟨q, rfl, hq, e5, b5, b5'⟩
    refine ⟨fun h2 => ?_, fun h2 => ?_⟩
    · have hq16 : q < 16 := by simp at h2; omega
      obtain ⟨x, hx, hxb⟩ := get_some hmk hq16
      obtain ⟨y, hy, hyb⟩ := get_some hv hq16
      have hmg : (mix (mergeL (l.take k)) l[k] q)[q]? = some x := by rw [mix_get hmk.1 hv.1 hq16]; exact hx
      have hmlen := mix_len hmk.1 hv.1 q
      refine ⟨⟨by omega, by omega⟩, x, b5.vcell hmg, ⟨by omega, by omega⟩, y, b5'.vcell hy, ⟨by omega, by omega⟩, upd H5 g2 24 (vc (mix (mergeL (l.take k)) l[k] (q + 1))), ?_, ⟨_, rfl⟩, ⟨q + 1, ?_, by omega, ?_, ?_, ?_⟩, ?_⟩
      · have e : (if (y : Int) > (x : Int) then (y : Int) else (x : Int)) = ((max x y : Nat) : Int) := by
          split <;> omega
        rw [e, b5.vset (by rw [hmlen]; exact hq16), mix_set hmk.1 hv.1 hx hy]
      · rw [wrap_i64 (by omega)]; omega
      · exact e5.upd hg2
      · exact b5.upd_same
      · exact b5'.upd_other (Ne.symm hne)
      · show (16 - IntKind.wrap .i64 ((q : Int) + 1)).toNat < (16 - (q : Int)).toNat
        rw [wrap_i64 (by omega)]
        omega
    · have : q = 16 := by simp at h2; omega
      subst this
      rw [mix_full hmk.1] at b5
      refine ⟨⟨_, rfl⟩, ⟨k + 1, ?_, by omega, e5, ?_⟩, ?_⟩
      · rw [wrap_i64 (by omega)]; omega
      · rw [mergeL_take_succ l hkn]; exact b5
      · show ((n : Int) - IntKind.wrap .i64 ((k : Int) + 1)).toNat < ((n : Int) - (k : Int)).toNat
        rw [wrap_i64 (by omega)]
        omega
  · have : k = n := by simp at h; omega
    subst this
    have ht : l.take k = l := List.take_of_length_le (by omega)
    rw [ht] at b2 hmk
    refine st_rd b2 (by rw [vc_size, hmk.1]) ?_
    refine st_wr b2 (by rw [vc_size, hmk.1]) (by rw [vc_size, hmk.1]) (vc_one _) fun H4 h4 b4 => ?_
    refine st_rd b4 (by rw [vc_size, hmk.1]) ?_
    refine ⟨rfl, ?_⟩
    rw [h4]
    exact e2.upd hg2

theorem rMerge_con (l : List Vec) (hl : ∀ v ∈ l, VOk v) (a : Option Addr) (n c : Nat) (H0 : Heap) (hs : SlV H0 a n l) (hn : n ≤ 1000000000) :
    CallsH Try.prog 13 ⟨[.slice a n c]⟩ H0 fun r H1 => r = .agg (vc (mergeL l)) ∧ Ext H0 H1 := by
  have hln := hs.1
  have hm := mergeL_ok hl
  refine caravanref03_Merge.ok ?_
  refine st_new fun g2 H1 hg2 e1 b1 => ?_
  refine st_new fun g3 H2 hg3 e2 b3 => ?_
  rw [zc24] at b1 b3
  have hne : g2 ≠ g3 := by have := b1.lt; omega
  have b1 := b1.ext e2
  have hg3 : H0.size ≤ g3 := by have := e1.size; omega
  have e2 := e1.trans e2
  refine ⟨LI fun i H => ∃ k : Nat, i = k ∧ k ≤ 16 ∧ Ext H0 H ∧ Blk H g2 24 (vc zeroV) ∧ Blk H g3 24 (vc ((mergeL l).take k ++ zeroV.drop k)), LM fun i => (16 - i).toNat, ⟨⟨_, rfl⟩, 0, rfl, by omega, e2, b1, b3⟩, ?_⟩
  rintro i H3 ⟨i, rfl, hi, e3, b2, b3⟩
  refine ⟨fun h => ?_, fun h => ?_⟩
  · have hi16 : i < 16 := by simp at h; omega
    refine ⟨LI fun j H => ∃ k : Nat, j = k ∧ k ≤ n ∧ Ext H0 H ∧ Blk H g2 24 (vc zeroV) ∧ Blk H g3 24 (vc (colV l i k)), LM fun j => ((n : Int) - j).toNat, ⟨⟨_, rfl⟩, 0, rfl, by omega, e3, b2, by rw [colV_zero l i hl hi16]; exact b3⟩, ?_⟩
    rintro j H4 ⟨k, rfl, hk, e4, b4, b5⟩
    refine ⟨fun h2 => ?_, fun h2 => ?_⟩
    · have hkn : k < l.length := by simp at h2; omega
      have hv := hl _ (List.getElem_mem hkn)
      have hmk : VOk (mergeL (l.take k)) := mergeL_ok fun v hv => hl v (List.mem_of_mem_take hv)
      obtain ⟨ad, ha, hr⟩ := hs.2 (by omega)
      obtain ⟨x, hx, hxb⟩ := get_some hmk hi16
      obtain ⟨y, hy, hyb⟩ := get_some hv hi16
      have hy4 : cellAt H4 (Addr.add (Addr.add ad (Int.toNat (k : Int) * 16)) (Int.toNat (i : Int) * 1)) = some (.int .u32 (y : Int)) := by
        rw [toNat_cast k]; exact ((hr k hkn).ext e4).vcell hi16 hy
      have hcl := colV_len l i k hl hi16
      have hms : (mergeL (l.take (k + 1)))[i]? = some (max x y) := by rw [mergeL_take_succ l hkn]; exact max2_get hx hy
      have hset := colV_set l i k hl hi16 hms
      have hgt := colV_get l i k hl hi16
      refine ⟨ad, ⟨ha, by omega, by omega⟩, ⟨by omega, by omega⟩, y, hy4, ⟨by omega, by omega⟩, x, b5.vcell (hgt.trans hx), fun h3 => ?_, fun h3 => ?_⟩
      · refine ⟨ad, ⟨ha, by omega, by omega⟩, ⟨by omega, by omega⟩, y, hy4, ⟨by omega, by omega⟩, _, b5.vset (by omega) y, ⟨_, rfl⟩, ⟨k + 1, ?_, by omega, e4.upd hg3, b4.upd_other hne, ?_⟩, ?_⟩
        · rw [wrap_i64 (by omega)]; omega
        · have : max x y = y := by simp at h3; omega
          rw [← hset, this]
          exact b5.upd_same
        · show ((n : Int) - IntKind.wrap .i64 ((k : Int) + 1)).toNat < ((n : Int) - (k : Int)).toNat
          rw [wrap_i64 (by omega)]
          omega
      · refine ⟨⟨_, rfl⟩, ⟨k + 1, ?_, by omega, e4, b4, ?_⟩, ?_⟩
        · rw [wrap_i64 (by omega)]; omega
        · have hm : max x y = x := by simp at h3; omega
          rw [← hset, hm]
          have : (colV l i k).set i x = colV l i k := by
            apply List.ext_getElem?
            intro j
            rw [List.getElem?_set]
            split
            · rename_i hj; subst hj; rw [hgt, hx, if_pos (by omega)]
            · rfl
          rw [this]
          exact b5
        · show ((n : Int) - IntKind.wrap .i64 ((k : Int) + 1)).toNat < ((n : Int) - (k : Int)).toNat
          rw [wrap_i64 (by omega)]
          omega
    · have : k = l.length := by simp at h2; omega
      subst this
      rw [colV_full l i hl hi16] at b5
      refine ⟨⟨_, rfl⟩, ⟨i + 1, ?_, by omega, e4, b4, b5⟩, ?_⟩
      · rw [wrap_i64 (by omega)]; omega
      · show (16 - IntKind.wrap .i64 ((i : Int) + 1)).toNat < (16 - (i : Int)).toNat
        rw [wrap_i64 (by omega)]
        omega
  · have : i = 16 := by simp at h; omega
    subst this
    have ht : (mergeL l).take 16 ++ zeroV.drop 16 = mergeL l := by
      rw [List.take_of_length_le (by rw [hm.1]; omega), List.drop_eq_nil_of_le (by simp [zeroV]), List.append_nil]
    rw [ht] at b3
    refine st_rd b3 (by rw [vc_size, hm.1]) ?_
    refine st_wr b2 (by rw [vc_size, hm.1]) (by rw [vc_size, zeroV_ok.1]) (vc_one _) fun H4 h4 b4 => ?_
    refine st_rd b4 (by rw [vc_size, hm.1]) ?_
    refine ⟨rfl, ?_⟩
    rw [h4]
    exact e3.upd hg2

/-- a slice of two vectors, made -/
theorem mk_vecs (l : List Vec) (hl : ∀ v ∈ l, VOk v) (hn : l.length ≤ 1000) (H : Heap) (ps : List (Nat × Value)) (hps : ps = ((l.map fun v => Value.agg (vc v)).zipIdx 0).map fun x => (x.2, x.1)) {n : Nat} (hln : l.length = n) :
    SemH Try.prog (Instr.buildSlice 32 n ⟨ps⟩) H fun v H1 => ∃ g, v = .slice (some ⟨g, 0, none⟩) n n ∧ Ext H H1 ∧ SlV H1 (some ⟨g, 0, none⟩) n l := by
  refine (sem_buildSlice (P := Try.prog) tab_ok (t := 32) (e := 24) (n := n) rfl rfl (l.map fun v => Value.agg (vc v)) ps hps H (by simpa using hln) (fun v hv => ?_) ?_).mono fun v H1 ⟨g, h1, h2, h3, h4⟩ => ⟨g, h1, h3, ?_⟩
  · simp at hv
    obtain ⟨u, hu, rfl⟩ := hv
    simp [Value.cells, vc_size, (hl u hu).1]
  · show n * 16 ≤ 16777216
    omega
  · subst hln
    exact SlV.of_blk (fun v hv => (hl v hv).1) h4

theorem Cmp_con (a b : Vec) (ha : VOk a) (hb : VOk b) (H0 : Heap) : CallsH Try.prog 14 ⟨[.agg (vc a), .agg (vc b)]⟩ H0 fun r H1 => r = .int .i64 (cmpV a b) ∧ Ext H0 H1 := by
  have hm := max2_ok ha hb
  refine vector_Cmp.ok ?_
  refine st_new fun g2 H1 hg2 e1 b2 => ?_
  refine st_new fun g3 H2 hg3 e2 b3 => ?_
  have b2 := b2.ext e2
  have e2 := e1.trans e2
  refine st_rd b2 (by rw [vc_size, ha.1]) ?_
  refine st_rd b3 (by rw [vc_size, hb.1]) ?_
  refine (mk_vecs [a, b] (by simp [ha, hb]) (by simp) H2 _ rfl rfl).mono ?_
  rintro _ H3 ⟨g, rfl, e3, hs⟩
  refine ⟨_, _, _, rfl, ?_⟩
  refine (Merge_con [a, b] (by simp [ha, hb]) _ _ _ _ hs (by show 2 ≤ 1000000000; omega)).mono ?_
  rintro _ H4 ⟨rfl, e4⟩
  have b2 := (b2.ext e3).ext e4
  have b3 := (b3.ext e3).ext e4
  have e4 := (e2.trans e3).trans e4
  rw [mergeL_two ha.1]
  refine ⟨_, rfl, st_rd b2 (by rw [vc_size, ha.1]) ⟨_, eqV hm.1 ha.1, fun h => ?_, fun h => ?_⟩⟩
  · have h1 : max2 a b = a := by simpa using h
    refine st_rd b2 (by rw [vc_size, ha.1]) (st_rd b3 (by rw [vc_size, hb.1]) ⟨_, eqV ha.1 hb.1, fun h2 => ?_, fun h2 => ?_⟩)
    · have : a = b := by simpa using h2
      exact ⟨by unfold cmpV; rw [if_pos h1, if_pos this], e4⟩
    · have : a ≠ b := by simpa using h2
      exact ⟨by unfold cmpV; rw [if_pos h1, if_neg this], e4⟩
  · have h1 : max2 a b ≠ a := by simpa using h
    refine st_rd b3 (by rw [vc_size, hb.1]) ⟨_, eqV hm.1 hb.1, fun h2 => ?_, fun h2 => ?_⟩
    · have : max2 a b = b := by simpa using h2
      exact ⟨by unfold cmpV; rw [if_neg h1, if_pos this], e4⟩
    · have : max2 a b ≠ b := by simpa using h2
      exact ⟨by unfold cmpV; rw [if_neg h1, if_neg this], e4⟩

def LI3 (f : Int → Int → Int → Heap → Prop) : List Value → Heap → Prop
  | [.int _ i, .int _ j, .int _ k], H => f i j k H
  | _, _ => False
def LM3 (f : Int → Int → Int → Nat) : List Value → Heap → Nat
  | [.int _ i, .int _ j, .int _ k], _ => f i j k
  | _, _ => 0
theorem rCmp_con (a b : Vec) (ha : VOk a) (hb : VOk b) (H0 : Heap) : CallsH Try.prog 18 ⟨[.agg (vc a), .agg (vc b)]⟩ H0 fun r H1 => r = .int .i64 (cmpV a b) ∧ Ext H0 H1 := by
  refine caravanref03_Cmp.ok ?_
  refine st_new fun g2 H1 hg2 e1 b2 => ?_
  refine st_new fun g3 H2 hg3 e2 b3 => ?_
  have b2 := b2.ext e2
  have e2 := e1.trans e2
  refine ⟨LI3 fun p q i H => ∃ k : Nat, i = k ∧ k ≤ 16 ∧ p = (moreV (a.take k) (b.take k) : Nat) ∧ q = (moreV (b.take k) (a.take k) : Nat) ∧ H = H2, LM3 fun _ _ i => (16 - i).toNat, ⟨⟨_, rfl⟩, ⟨_, rfl⟩, ⟨_, rfl⟩, 0, rfl, by omega, by simp [moreV], by simp [moreV], rfl⟩, ?_⟩
  rintro p q i H3 ⟨k, rfl, hk, rfl, rfl, rfl⟩
  have l1 := moreV_le a b k
  have l2 := moreV_le b a k
  refine ⟨fun h => ?_, fun h => ?_⟩
  · have hk16 : k < 16 := by simp at h; omega
    obtain ⟨x, hx, hxb⟩ := get_some ha hk16
    obtain ⟨y, hy, hyb⟩ := get_some hb hk16
    have m1 := moreV_take hx hy
    have m2 := moreV_take hy hx
    have cx := b2.vcell hx
    have cy := b3.vcell hy
    refine ⟨LI2 fun p q H => p = (moreV (a.take (k + 1)) (b.take (k + 1)) : Nat) ∧ q = (moreV (b.take (k + 1)) (a.take (k + 1)) : Nat) ∧ H = H3, ⟨LI fun p H => p = (moreV (a.take (k + 1)) (b.take (k + 1)) : Nat) ∧ H = H3, ⟨⟨by omega, by omega⟩, x, cx, ⟨by omega, by omega⟩, y, cy, fun h2 => ⟨⟨_, rfl⟩, ?_, rfl⟩, fun h2 => ⟨⟨_, rfl⟩, ?_, rfl⟩⟩, ?_⟩, ?_⟩
    · simp at h2
      rw [wrap_i64 (by omega), m1, if_pos (by omega)]
      omega
    · simp at h2
      rw [m1, if_neg (by omega)]
      omega
    · rintro p H4 ⟨rfl, rfl⟩
      refine ⟨⟨by omega, by omega⟩, x, cx, ⟨by omega, by omega⟩, y, cy, fun h2 => ⟨⟨_, rfl⟩, ⟨_, rfl⟩, rfl, ?_, rfl⟩, fun h2 => ⟨⟨_, rfl⟩, ⟨_, rfl⟩, rfl, ?_, rfl⟩⟩
      · simp at h2
        rw [wrap_i64 (by omega), m2, if_pos (by omega)]
        omega
      · simp at h2
        rw [m2, if_neg (by omega)]
        omega
    · rintro p q H4 ⟨rfl, rfl, rfl⟩
      refine ⟨⟨_, rfl⟩, ⟨_, rfl⟩, ⟨_, rfl⟩, ⟨k + 1, ?_, by omega, rfl, rfl, rfl⟩, ?_⟩
      · rw [wrap_i64 (by omega)]; omega
      · show (16 - IntKind.wrap .i64 ((k : Int) + 1)).toNat < (16 - (k : Int)).toNat
        rw [wrap_i64 (by omega)]
        omega
  · have : k = 16 := by simp at h; omega
    subst this
    rw [List.take_of_length_le (by rw [ha.1]; omega), List.take_of_length_le (by rw [hb.1]; omega)]
    have hc := cmpV_more (ha.1.trans hb.1.symm)
    refine ⟨fun h2 => ⟨?_, e2⟩, fun h2 => ⟨fun h3 => ⟨?_, e2⟩, fun h3 => ⟨fun h4 => ⟨?_, e2⟩, fun h4 => ⟨?_, e2⟩⟩⟩⟩
    · rw [hc, if_pos]
      cases h5 : decide (((moreV a b : Nat) : Int) > 0) with
      | true => rw [h5] at h2; simp at h5 h2; omega
      | false => rw [h5] at h2; simp at h2
    · have h5 : decide (((moreV a b : Nat) : Int) > 0) = true := h3
      rw [h5] at h2
      simp at h2 h3
      rw [hc, if_neg (by omega), if_pos (by omega)]
    · simp at h3 h4
      rw [hc, if_neg (by omega), if_neg (by omega), if_pos (by omega)]
    · simp at h3 h4
      rw [hc, if_neg (by omega), if_neg (by omega), if_neg (by omega)]
end Go.Proofs.Ytkidefjiaknefaa
