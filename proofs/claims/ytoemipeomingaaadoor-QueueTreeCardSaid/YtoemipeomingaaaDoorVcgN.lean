/- Vectors: the plain law, no program in sight. -/
import Derived.Test.YtoemipeomingaaaDoorVcgM
namespace Go.V
open Go

/-! ### Parts of a block -/
theorem flat_get (s : Nat) : ∀ (vs : List Value), (∀ v ∈ vs, v.cells.size = s) → ∀ (k i : Nat) (hk : k < vs.length), i < s → (vs.flatMap fun v => v.cells.toList)[k * s + i]? = (vs[k]).cells[i]?
  | [], _, k, _, hk, _ => by simp at hk
  | v :: r, hs, 0, i, _, hi => by
    have h0 := hs v List.mem_cons_self
    rw [List.flatMap_cons, Nat.zero_mul, Nat.zero_add, List.getElem?_append_left (by simp [h0, hi])]
    simp
  | v :: r, hs, k + 1, i, hk, hi => by
    have h0 := hs v List.mem_cons_self
    rw [List.flatMap_cons, List.getElem?_append_right (by simp [h0, Nat.succ_mul]; omega)]
    have : (k + 1) * s + i - v.cells.toList.length = k * s + i := by simp [h0, Nat.succ_mul]; omega
    rw [this, flat_get s r (fun u hu => hs u (List.mem_cons_of_mem _ hu)) k i (by simpa using hk) hi]
    simp
theorem add_add' (a : Addr) (i j : Nat) : (a.add i).add j = a.add (i + j) := by
  unfold Addr.add
  by_cases hi : i = 0 <;> by_cases hj : j = 0 <;> simp [hi, hj, Nat.add_assoc]
theorem Blk.part {H : Heap} {g s : Nat} {t : TypeId} {vs : List Value} (h : Blk H g t ⟨vs.flatMap fun v => v.cells.toList⟩) (hs : ∀ v ∈ vs, v.cells.size = s) {k : Nat} (hk : k < vs.length) :
    RdN H (Addr.add ⟨g, 0, none⟩ (k * s)) s (vs[k]).cells :=
  ⟨hs _ (List.getElem_mem hk), fun i hi => by
    rw [add_add', h.cellA, Nat.zero_add]
    simpa using flat_get s vs hs k i hk hi⟩

/-! ### Vectors -/
abbrev Vec := List Nat
def VOk (v : Vec) : Prop := v.length = 16 ∧ ∀ x ∈ v, x < 4294967296
def vc (v : Vec) : Array Value := ⟨v.map fun n => .int .u32 ((n : Nat) : Int)⟩
theorem vc_size (v : Vec) : (vc v).size = v.length := by simp [vc]
theorem vc_get (v : Vec) (i : Nat) : (vc v)[i]? = v[i]?.map fun n => .int .u32 ((n : Nat) : Int) := by simp [vc]
theorem vc_one (v : Vec) : ∀ x ∈ (vc v).toList, x.oneCell' = true := by
  intro x hx
  simp [vc] at hx
  obtain ⟨n, _, rfl⟩ := hx
  rfl
theorem vc_set (v : Vec) (i n : Nat) : (vc v).setIfInBounds i (.int .u32 ((n : Nat) : Int)) = vc (v.set i n) := by
  apply Array.ext'
  simp [vc, List.map_set]
theorem vc_inj {u v : Vec} (h : vc u = vc v) : u = v := by
  have := congrArg Array.toList h
  simp [vc] at this
  exact (List.map_inj_right (f := fun n : Nat => Value.int .u32 ((n : Nat) : Int)) (fun a b hab => by injection hab with _ hab; omega)).1 this
theorem vc_ints (v : Vec) : vc v = ⟨(v.map fun n => ((n : Nat) : Int)).map (.int .u32)⟩ := by simp [vc]
def zeroV : Vec := List.replicate 16 0
theorem zeroV_ok : VOk zeroV := ⟨by simp [zeroV], fun x hx => by simp [zeroV] at hx; omega⟩

def max2 (a b : Vec) : Vec := List.zipWith max a b
def mergeL (l : List Vec) : Vec := l.foldl max2 zeroV
def sumV (v : Vec) : Nat := v.sum
def leastFrom : Nat → Vec → Option Nat
  | _, [] => none
  | i, x :: r => if 0 < x then some i else leastFrom (i + 1) r
def leastV (v : Vec) : Option Nat := leastFrom 0 v
def cmpV (a b : Vec) : Int := if max2 a b = a then (if a = b then 0 else 1) else if max2 a b = b then -1 else 2
def bumpV (v : Vec) (dev time : Int) : Vec × Int :=
  if dev < 1 ∨ 16 < dev ∨ time < 0 then (zeroV, 2)
  else if (v[(dev - 1).toNat]?.getD 0) = 4294967295 ∨ 4294967295 < time then (zeroV, 13)
  else (v.set (dev - 1).toNat (max ((v[(dev - 1).toNat]?.getD 0) + 1) time.toNat), 0)

theorem max2_ok {a b : Vec} (ha : VOk a) (hb : VOk b) : VOk (max2 a b) := by
  refine ⟨by simp [max2, ha.1, hb.1], fun x hx => ?_⟩
  rw [max2, List.mem_iff_getElem] at hx
  obtain ⟨i, hi, rfl⟩ := hx
  rw [List.getElem_zipWith]
  have h1 := ha.2 _ (List.getElem_mem (l := a) (n := i) (by simp at hi; omega))
  have h2 := hb.2 _ (List.getElem_mem (l := b) (n := i) (by simp at hi; omega))
  omega
theorem max2_get {a b : Vec} {i x y : Nat} (ha : a[i]? = some x) (hb : b[i]? = some y) : (max2 a b)[i]? = some (max x y) := by
  simp [max2, List.getElem?_zipWith, ha, hb]
theorem max2_zero {a : Vec} (ha : a.length = 16) : max2 zeroV a = a := by
  apply List.ext_getElem?
  intro i
  rcases Nat.lt_or_ge i 16 with hl | hl
  · have : a[i]? = some (a[i]'(by omega)) := List.getElem?_eq_getElem (by omega)
    rw [max2_get (x := 0) (by unfold zeroV; rw [List.getElem?_replicate, if_pos hl]) this, this]
    simp
  · rw [List.getElem?_eq_none (by simp [max2, ha, zeroV]; omega), List.getElem?_eq_none (by omega)]
theorem mergeL_snoc (l : List Vec) (v : Vec) : mergeL (l ++ [v]) = max2 (mergeL l) v := by simp [mergeL]
theorem foldl_ok : ∀ (l : List Vec) (a : Vec), VOk a → (∀ v ∈ l, VOk v) → VOk (l.foldl max2 a)
  | [], _a, ha, _ => ha
  | v :: r, _a, ha, h => foldl_ok r _ (max2_ok ha (h v List.mem_cons_self)) (fun u hu => h u (List.mem_cons_of_mem _ hu))
theorem mergeL_ok {l : List Vec} (h : ∀ v ∈ l, VOk v) : VOk (mergeL l) := foldl_ok l zeroV zeroV_ok h
theorem mergeL_two {a b : Vec} (ha : a.length = 16) : mergeL [a, b] = max2 a b := by simp [mergeL, max2_zero ha]
theorem bumpV_ok {v : Vec} (hv : VOk v) (dev time : Int) : VOk (bumpV v dev time).1 := by
  unfold bumpV
  split
  · exact zeroV_ok
  · split
    · exact zeroV_ok
    · rename_i h1 h2
      refine ⟨by simp [hv.1], fun x hx => ?_⟩
      rcases List.mem_or_eq_of_mem_set hx with h | h
      · exact hv.2 x h
      · rw [h]
        have h3 : (dev - 1).toNat < v.length := by rw [hv.1]; omega
        have h4 := hv.2 _ (List.getElem_mem h3)
        have h5 : v[(dev - 1).toNat]? = some v[(dev - 1).toNat] := List.getElem?_eq_getElem h3
        rw [h5] at h2
        simp only [Option.getD_some] at h2
        rw [h5, Option.getD_some]
        omega
theorem sum_le : ∀ (v : Vec), (∀ x ∈ v, x < 4294967296) → v.sum ≤ v.length * 4294967295
  | [], _ => by simp
  | x :: r, h => by
    have := sum_le r (fun y hy => h y (List.mem_cons_of_mem _ hy))
    have := h x List.mem_cons_self
    simp only [List.sum_cons, List.length_cons]
    omega
theorem sum_take_succ (v : Vec) (k : Nat) (hk : k < v.length) : (v.take (k + 1)).sum = (v.take k).sum + v[k] := by
  rw [List.take_succ_eq_append_getElem hk, List.sum_append]; simp
theorem sum_take_le (v : Vec) (h : VOk v) (k : Nat) : (v.take k).sum ≤ 68719476720 := by
  have h1 := sum_le (v.take k) (fun x hx => h.2 x (List.mem_of_mem_take hx))
  have h2 : (v.take k).length ≤ 16 := by rw [List.length_take, h.1]; omega
  have : (v.take k).length * 4294967295 ≤ 16 * 4294967295 := Nat.mul_le_mul_right _ h2
  omega
theorem leastFrom_skip : ∀ (v : Vec) (k i : Nat), (∀ j, j < k → v[j]? = some 0) → leastFrom i v = leastFrom (i + k) (v.drop k)
  | _, 0, i, _ => by simp
  | [], k + 1, i, h => by have := h 0 (by omega); simp at this
  | x :: r, k + 1, i, h => by
    have h0 := h 0 (by omega)
    simp at h0
    subst h0
    rw [leastFrom, if_neg (by omega), leastFrom_skip r k (i + 1) (fun j hj => by have := h (j + 1) (by omega); simpa using this)]
    simp [Nat.add_assoc, Nat.add_comm 1 k]
theorem leastV_at {v : Vec} {k : Nat} (hk : k < v.length) (h : ∀ j, j < k → v[j]? = some 0) (hp : 0 < v[k]) : leastV v = some k := by
  unfold leastV
  rw [leastFrom_skip v k 0 h, List.drop_eq_getElem_cons hk, leastFrom, if_pos hp, Nat.zero_add]
theorem leastV_none {v : Vec} (h : ∀ j, j < v.length → v[j]? = some 0) : leastV v = none := by
  unfold leastV
  rw [leastFrom_skip v v.length 0 h, List.drop_length]
  rfl

/-- the first j counters are the merged ones -/
def mix (m v : Vec) (j : Nat) : Vec := (max2 m v).take j ++ m.drop j
theorem mix_zero (m v : Vec) : mix m v 0 = m := by simp [mix]
theorem mix_full {m v : Vec} (hm : m.length = 16) : mix m v 16 = max2 m v := by
  have : (max2 m v).length ≤ 16 := by simp [max2, hm]; omega
  simp [mix, List.take_of_length_le this, List.drop_eq_nil_of_le (show m.length ≤ 16 by omega)]
theorem mix_len {m v : Vec} (hm : m.length = 16) (hv : v.length = 16) (j : Nat) : (mix m v j).length = 16 := by
  simp [mix, max2, hm, hv]; omega
theorem mix_get {m v : Vec} (hm : m.length = 16) (hv : v.length = 16) {j : Nat} (hj : j < 16) : (mix m v j)[j]? = m[j]? := by
  unfold mix
  rw [List.getElem?_append_right (by simp [max2, hm, hv]; omega)]
  simp [max2, hm, hv]
  congr 1
  omega
theorem mix_set {m v : Vec} (hm : m.length = 16) (hv : v.length = 16) {j x y : Nat} (hx : m[j]? = some x) (hy : v[j]? = some y) : (mix m v j).set j (max x y) = mix m v (j + 1) := by
  have hj : j < 16 := by
    rcases Nat.lt_or_ge j m.length with h | h
    · omega
    · rw [List.getElem?_eq_none h] at hx; cases hx
  have hl : ((max2 m v).take j).length = j := by simp [max2, hm, hv]; omega
  unfold mix
  rw [List.set_append_right _ _ (by omega), hl, Nat.sub_self, List.drop_eq_getElem_cons (show j < m.length by omega), List.set_cons_zero]
  have h3 : (max2 m v)[j]'(by simp [max2, hm, hv]; omega) = max x y := by
    have := max2_get hx hy
    rw [List.getElem?_eq_getElem (by simp [max2, hm, hv]; omega)] at this
    injection this
  rw [List.take_succ_eq_append_getElem (show j < (max2 m v).length by simp [max2, hm, hv]; omega), h3, List.append_assoc]
  rfl
theorem get_some {v : Vec} (hv : VOk v) {j : Nat} (hj : j < 16) : ∃ x, v[j]? = some x ∧ x < 4294967296 :=
  ⟨v[j]'(by rw [hv.1]; exact hj), List.getElem?_eq_getElem _, hv.2 _ (List.getElem_mem _)⟩
theorem Blk.vcell {H : Heap} {g : Nat} {t : TypeId} {v : Vec} (h : Blk H g t (vc v)) {j x : Nat} (hx : v[j]? = some x) : cellAt H (Addr.add ⟨g, 0, none⟩ (Int.toNat (j : Int) * 1)) = some (.int .u32 (x : Int)) := by
  rw [h.cellA, toNat_cast, Nat.mul_one, Nat.zero_add, vc_get, hx]; rfl
theorem Blk.vset {H : Heap} {g : Nat} {t : TypeId} {v : Vec} (h : Blk H g t (vc v)) {j : Nat} (hj : j < v.length) (x : Nat) :
    V.wr1 H (Addr.add ⟨g, 0, none⟩ (Int.toNat (j : Int) * 1)) (.int .u32 (x : Int)) = some (V.upd H g t (vc (v.set j x))) := by
  rw [toNat_cast, Nat.mul_one, h.wr1A (by rw [vc_size]; omega) rfl, Nat.zero_add, vc_set]
theorem RdN.vcell {H : Heap} {ad : Addr} {v : Vec} {n : Nat} (h : RdN H ad n (vc v)) {j x : Nat} (hj : j < n) (hx : v[j]? = some x) : cellAt H (Addr.add ad (Int.toNat (j : Int) * 1)) = some (.int .u32 (x : Int)) := by
  rw [toNat_cast, Nat.mul_one, h.2 j hj, vc_get, hx]; rfl

/-- counter i as of the first k vectors, those before it as of all -/
def colV (l : List Vec) (i k : Nat) : Vec := (mergeL l).take i ++ ((mergeL (l.take k)).drop i).take 1 ++ zeroV.drop (i + 1)
theorem colV_zero (l : List Vec) (i : Nat) (_h : ∀ v ∈ l, VOk v) (_hi : i < 16) : colV l i 0 = (mergeL l).take i ++ zeroV.drop i := by
  unfold colV
  have : (zeroV.drop i).take 1 ++ zeroV.drop (i + 1) = zeroV.drop i := by
    rw [← List.drop_drop]; exact List.take_append_drop 1 _
  rw [List.append_assoc]
  congr 1
theorem colV_full (l : List Vec) (i : Nat) (h : ∀ v ∈ l, VOk v) (hi : i < 16) : colV l i l.length = (mergeL l).take (i + 1) ++ zeroV.drop (i + 1) := by
  unfold colV
  rw [List.take_length]
  have hl := (mergeL_ok h).1
  rw [List.drop_eq_getElem_cons (show i < (mergeL l).length by omega), List.take_succ_eq_append_getElem (show i < (mergeL l).length by omega)]
  rfl
theorem colV_len (l : List Vec) (i k : Nat) (h : ∀ v ∈ l, VOk v) (hi : i < 16) : (colV l i k).length = 16 := by
  have h1 := (mergeL_ok h).1
  have h2 := (mergeL_ok (fun v hv => h v (List.mem_of_mem_take hv) : ∀ v ∈ l.take k, VOk v)).1
  simp [colV, h1, h2, zeroV]
  omega
theorem colV_get (l : List Vec) (i k : Nat) (h : ∀ v ∈ l, VOk v) (hi : i < 16) : (colV l i k)[i]? = (mergeL (l.take k))[i]? := by
  have h1 := (mergeL_ok h).1
  have h2 := (mergeL_ok (fun v hv => h v (List.mem_of_mem_take hv) : ∀ v ∈ l.take k, VOk v)).1
  unfold colV
  rw [List.append_assoc, List.getElem?_append_right (by simp [h1]; omega)]
  have : i - ((mergeL l).take i).length = 0 := by simp [h1]; omega
  have e : ((mergeL (l.take k)).drop i).take 1 = [(mergeL (l.take k))[i]'(by omega)] := by
    rw [List.drop_eq_getElem_cons (show i < (mergeL (l.take k)).length by omega)]; rfl
  rw [this, e, List.getElem?_eq_getElem (show i < (mergeL (l.take k)).length by omega)]
  rfl
theorem colV_set (l : List Vec) (i k : Nat) (h : ∀ v ∈ l, VOk v) (hi : i < 16) {x : Nat} (hx : (mergeL (l.take (k + 1)))[i]? = some x) : (colV l i k).set i x = colV l i (k + 1) := by
  have h1 := (mergeL_ok h).1
  have h2 := (mergeL_ok (fun v hv => h v (List.mem_of_mem_take hv) : ∀ v ∈ l.take k, VOk v)).1
  have h3 := (mergeL_ok (fun v hv => h v (List.mem_of_mem_take hv) : ∀ v ∈ l.take (k + 1), VOk v)).1
  have hl : ((mergeL l).take i).length = i := by simp [h1]; omega
  have e : ((mergeL (l.take k)).drop i).take 1 = [(mergeL (l.take k))[i]'(by omega)] := by
    rw [List.drop_eq_getElem_cons (show i < (mergeL (l.take k)).length by omega)]; rfl
  have e2 : ((mergeL (l.take (k + 1))).drop i).take 1 = [(mergeL (l.take (k + 1)))[i]'(by omega)] := by
    rw [List.drop_eq_getElem_cons (show i < (mergeL (l.take (k + 1))).length by omega)]; rfl
  unfold colV
  rw [e, e2, List.append_assoc, List.set_append_right _ _ (by omega), hl, Nat.sub_self]
  rw [List.getElem?_eq_getElem (by omega)] at hx
  injection hx with hx
  rw [hx, List.append_assoc]
  rfl
theorem mergeL_take_succ (l : List Vec) {k : Nat} (hk : k < l.length) : mergeL (l.take (k + 1)) = max2 (mergeL (l.take k)) l[k] := by
  rw [List.take_succ_eq_append_getElem hk, mergeL_snoc]

/-! ### More and less -/
def moreV (a b : Vec) : Nat := ((a.zip b).filter fun p => p.2 < p.1).length
theorem moreV_zero {a b : Vec} (hl : a.length = b.length) : moreV a b = 0 ↔ max2 a b = b := by
  induction a generalizing b with
  | nil => cases b <;> simp [moreV, max2] at hl ⊢
  | cons x r ih =>
    cases b with
    | nil => simp at hl
    | cons y s =>
      have := ih (b := s) (by simpa using hl)
      simp only [moreV, max2, List.zip_cons_cons, List.zipWith_cons_cons, List.cons.injEq, List.filter_cons] at this ⊢
      by_cases hxy : y < x
      · simp [hxy]; omega
      · simp [hxy, this]; omega
theorem max2_comm (a b : Vec) : max2 a b = max2 b a := by
  unfold max2
  rw [List.zipWith_comm]
  congr 1
  funext x y
  exact Nat.max_comm _ _
theorem cmpV_more {a b : Vec} (hl : a.length = b.length) : cmpV a b = if 0 < moreV a b ∧ 0 < moreV b a then 2 else if 0 < moreV a b then 1 else if 0 < moreV b a then -1 else 0 := by
  have h1 := moreV_zero hl
  have h2 := moreV_zero hl.symm
  rw [max2_comm] at h2
  unfold cmpV
  by_cases ha : max2 a b = a
  · have hb0 := h2.2 ha
    by_cases hb : max2 a b = b
    · have := h1.2 hb
      have hab : a = b := ha.symm.trans hb
      rw [if_pos ha, if_pos hab, if_neg (by omega), if_neg (by omega), if_neg (by omega)]
    · have : moreV a b ≠ 0 := fun h => hb (h1.1 h)
      have hab : a ≠ b := fun e => by subst e; exact hb ha
      rw [if_pos ha, if_neg hab, if_neg (by omega), if_pos (by omega)]
  · have hb0 : moreV b a ≠ 0 := fun h => ha (h2.1 h)
    rw [if_neg ha]
    by_cases hb : max2 a b = b
    · have := h1.2 hb
      rw [if_pos hb, if_neg (by omega), if_neg (by omega), if_pos (by omega)]
    · have : moreV a b ≠ 0 := fun h => hb (h1.1 h)
      rw [if_neg hb, if_pos (by omega)]
theorem moreV_take {a b : Vec} {k x y : Nat} (hx : a[k]? = some x) (hy : b[k]? = some y) : moreV (a.take (k + 1)) (b.take (k + 1)) = moreV (a.take k) (b.take k) + if y < x then 1 else 0 := by
  have h1 : k < a.length := by
    rcases Nat.lt_or_ge k a.length with h | h
    · exact h
    · rw [List.getElem?_eq_none h] at hx; cases hx
  have h2 : k < b.length := by
    rcases Nat.lt_or_ge k b.length with h | h
    · exact h
    · rw [List.getElem?_eq_none h] at hy; cases hy
  rw [List.getElem?_eq_getElem h1] at hx
  rw [List.getElem?_eq_getElem h2] at hy
  injection hx with hx
  injection hy with hy
  unfold moreV
  rw [List.take_succ_eq_append_getElem h1, List.take_succ_eq_append_getElem h2, List.zip_append (by simp; omega), List.filter_append, List.length_append]
  congr 1
  simp [hx, hy, List.filter_cons]
  split <;> rfl
theorem moreV_le (a b : Vec) (k : Nat) : moreV (a.take k) (b.take k) ≤ k := by
  unfold moreV
  refine Nat.le_trans (List.length_filter_le _ _) ?_
  simp
  omega

/-- a slice of vectors -/
def SlV (H : Heap) (a : Option Addr) (n : Nat) (l : List Vec) : Prop :=
  l.length = n ∧ (0 < n → ∃ ad, a = some ad ∧ ∀ k (hk : k < l.length), RdN H (ad.add (k * 16)) 16 (vc l[k]))
theorem SlV.ext {H H' : Heap} {a : Option Addr} {n : Nat} {l : List Vec} (h : SlV H a n l) (e : Ext H H') : SlV H' a n l :=
  ⟨h.1, fun hn => let ⟨ad, h1, h2⟩ := h.2 hn; ⟨ad, h1, fun k hk => (h2 k hk).ext e⟩⟩
theorem SlV.of_blk {H : Heap} {g : Nat} {t : TypeId} {l : List Vec} (hl : ∀ v ∈ l, v.length = 16) (h : Blk H g t ⟨(l.map fun v => Value.agg (vc v)).flatMap fun v => v.cells.toList⟩) :
    SlV H (some ⟨g, 0, none⟩) l.length l :=
  ⟨rfl, fun _ => ⟨_, rfl, fun k hk => by
    have := h.part (s := 16) (fun v hv => by simp at hv; obtain ⟨u, hu, rfl⟩ := hv; simp [Value.cells, vc_size, hl u hu]) (k := k) (by simpa using hk)
    simpa [Value.cells] using this⟩⟩
end Go.V
