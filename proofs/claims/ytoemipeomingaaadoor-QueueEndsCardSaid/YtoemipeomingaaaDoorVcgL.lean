/- Blocks: what is known of a heap, kept from heap to heap. -/
import Derived.Test.YtoemipeomingaaaDoorVcgI
namespace Go.V
open Go

def Blk (H : Heap) (g : Nat) (t : TypeId) (cs : Array Value) : Prop := H[g]? = some (.cells cs t (0, 0))
def upd (H : Heap) (g : Nat) (t : TypeId) (cs : Array Value) : Heap := H.setIfInBounds g (.cells cs t (0, 0))
section
variable {H H' H1 H2 : Heap} {g g' i n : Nat} {t t' : TypeId} {cs cs' : Array Value} {v : Value} {o : Obj}
theorem Blk.lt (h : Blk H g t cs) : g < H.size := by
  rcases Nat.lt_or_ge g H.size with hl | hl
  · exact hl
  · unfold Blk at h; rw [Array.getElem?_eq_none hl] at h; cases h
theorem Blk.ext (h : Blk H g t cs) (e : Ext H H') : Blk H' g t cs := e.keep h
theorem NewB.blk (h : NewB H t cs g H1) : Blk H1 g t cs := by
  obtain ⟨rfl, rfl⟩ := h
  simp [Blk]
theorem NewB.ext (h : NewB H t cs g H1) : Ext H H1 := by rw [h.eq]; exact Ext.push _ _
theorem NewB.ge (h : NewB H t cs g H1) : H.size ≤ g := by rw [h.at_]; exact Nat.le_refl _
theorem Blk.cell (h : Blk H g t cs) (i : Nat) : cellAt H ⟨g, i, none⟩ = cs[i]? := by
  unfold cellAt
  unfold Blk at h
  simp [h]
theorem add_lit (b o n : Nat) : Addr.add ⟨b, o, none⟩ n = ⟨b, o + n, none⟩ := Addr.add_lit b o n
theorem Blk.cellA (h : Blk H g t cs) (o i : Nat) : cellAt H (Addr.add ⟨g, o, none⟩ i) = cs[o + i]? := by rw [add_lit, h.cell]
theorem Blk.rd (h : Blk H g t cs) : RdN H ⟨g, 0, none⟩ cs.size cs := ⟨rfl, fun i _ => by rw [h.cellA, Nat.zero_add]⟩
theorem Blk.rdAt (h : Blk H g t cs) (o n : Nat) (hn : o + n ≤ cs.size) : RdN H ⟨g, o, none⟩ n (cs.extract o (o + n)) :=
  ⟨by simp; omega, fun i hi => by rw [h.cellA]; simp [Array.getElem?_extract]; omega⟩
theorem RdN.eq {a : Addr} {cs cs' : Array Value} (h : RdN H a n cs) (h' : RdN H a n cs') : cs = cs' := by
  apply Array.ext_getElem?
  intro i
  rcases Nat.lt_or_ge i n with hl | hl
  · rw [← h.2 i hl, ← h'.2 i hl]
  · rw [Array.getElem?_eq_none (by rw [h.1]; exact hl), Array.getElem?_eq_none (by rw [h'.1]; exact hl)]
theorem upd_same (h : g < H.size) : Blk (upd H g t cs) g t cs := by simp [Blk, upd, h]
theorem Blk.upd_same (h : Blk H g t cs) : Blk (upd H g t' cs') g t' cs' := V.upd_same h.lt
theorem Blk.upd_other (h : Blk H g t cs) (hne : g ≠ g') : Blk (upd H g' t' cs') g t cs := by
  unfold Blk upd at *
  rw [Array.getElem?_setIfInBounds_ne (Ne.symm hne), h]
theorem upd_size : (upd H g t cs).size = H.size := by simp [upd]
theorem Ext.upd (h : Ext H H1) (hg : H.size ≤ g) : Ext H (upd H1 g t cs) :=
  ⟨by rw [upd_size]; exact h.size, fun b hb => by
    unfold V.upd
    rw [Array.getElem?_setIfInBounds_ne (by omega)]
    exact h.block b hb⟩
theorem upd_upd : upd (upd H g t cs) g t' cs' = upd H g t' cs' := by
  unfold upd
  apply Array.ext'
  simp
theorem Blk.wr1 (h : Blk H g t cs) (hi : i < cs.size) (hv : v.oneCell' = true) : V.wr1 H ⟨g, i, none⟩ v = some (V.upd H g t (cs.setIfInBounds i v)) := by
  have hc : (cellAt H ⟨g, i, none⟩).isSome = true := by rw [h.cell]; simp [hi]
  have hf : frozenAt H ⟨g, i, none⟩ = false := by
    unfold frozenAt
    unfold Blk at h
    simp [h]
  unfold V.wr1
  rw [if_pos (by rw [hv, hc, hf]; rfl)]
  congr 1
  unfold setC V.upd
  unfold Blk at h
  apply Array.ext_getElem?
  intro j
  rw [Array.getElem?_modify, Array.getElem?_setIfInBounds]
  by_cases hj : g = j
  · subst hj
    have hl : g < H.size := Blk.lt h
    have hH : H[g] = .cells cs t (0, 0) := by rw [Array.getElem?_eq_getElem hl] at h; injection h
    simp [hl, hH]
  · simp [hj]
theorem Blk.wr1A (h : Blk H g t cs) {o i : Nat} (hi : o + i < cs.size) (hv : v.oneCell' = true) : V.wr1 H (Addr.add ⟨g, o, none⟩ i) v = some (V.upd H g t (cs.setIfInBounds (o + i) v)) := by
  rw [add_lit]; exact h.wr1 hi hv
/-- the cells from o on are those of vs -/
def putAt (cs : Array Value) (o : Nat) : List Value → Array Value
  | [] => cs
  | v :: r => putAt (cs.setIfInBounds o v) (o + 1) r
theorem putAt_size : ∀ (vs : List Value) (cs : Array Value) (o : Nat), (putAt cs o vs).size = cs.size
  | [], _, _ => rfl
  | v :: r, cs, o => by unfold putAt; rw [putAt_size r]; simp
theorem Blk.wrN (o : Nat) : ∀ (vs : List Value) (k : Nat) (H : Heap) (cs : Array Value), Blk H g t cs → o + k + vs.length ≤ cs.size → (∀ v ∈ vs, v.oneCell' = true) →
    V.wrN H ⟨g, o, none⟩ vs k = some (V.upd H g t (putAt cs (o + k) vs))
  | [], k, H, cs, h, _, _ => by
    unfold V.wrN putAt V.upd
    congr 1
    apply Array.ext_getElem?
    intro j
    rw [Array.getElem?_setIfInBounds]
    by_cases hj : g = j
    · subst hj
      have hl : g < H.size := h.lt
      unfold Blk at h
      have hH : H[g] = .cells cs t (0, 0) := by rw [Array.getElem?_eq_getElem hl] at h; injection h
      simp [hl, hH]
    · simp [hj]
  | v :: r, k, H, cs, h, hn, h1 => by
    unfold V.wrN
    rw [h.wr1A (by simp at hn; omega) (h1 v List.mem_cons_self)]
    dsimp only
    rw [Blk.wrN o r (k + 1) _ _ h.upd_same (by simp at hn ⊢; omega) (fun u hu => h1 u (List.mem_cons_of_mem _ hu)), upd_upd]
    rfl
theorem putAt_all : ∀ (vs : List Value) (pre : List Value) (cs : Array Value), cs.size = pre.length + vs.length → (∀ j, j < pre.length → cs[j]? = pre[j]?) → putAt cs pre.length vs = ⟨pre ++ vs⟩
  | [], pre, cs, hs, hp => by
    unfold putAt
    apply Array.ext_getElem?
    intro j
    simp only [List.append_nil]
    rcases Nat.lt_or_ge j pre.length with hl | hl
    · rw [hp j hl]; simp
    · rw [Array.getElem?_eq_none (by simp at hs; omega)]; simp; omega
  | v :: r, pre, cs, hs, hp => by
    unfold putAt
    have := putAt_all r (pre ++ [v]) (cs.setIfInBounds pre.length v) (by simp at hs ⊢; omega) (fun j hj => by
      rw [Array.getElem?_setIfInBounds]
      by_cases he : pre.length = j
      · subst he; simp at hs ⊢; omega
      · rw [if_neg he]
        simp at hj
        rw [hp j (by omega), List.getElem?_append_left (by omega)])
    simpa using this
theorem Blk.wrAll (h : Blk H g t cs) {vs : List Value} (hn : vs.length = cs.size) (h1 : ∀ v ∈ vs, v.oneCell' = true) : V.wrN H ⟨g, 0, none⟩ vs 0 = some (V.upd H g t ⟨vs⟩) := by
  rw [Blk.wrN 0 vs 0 H cs h (by omega) h1]
  have := putAt_all vs [] cs (by simp [hn]) (fun j hj => by simp at hj)
  simp at this
  rw [Nat.add_zero, this]
end

/-! ### Integers that fit -/
theorem wrap_i64 {x : Int} (h : -9223372036854775808 ≤ x ∧ x ≤ 9223372036854775807) : IntKind.wrap .i64 x = x := by
  exact IntWalk.i64_in _ h
theorem wrap_u64 {x : Int} (h : 0 ≤ x ∧ x ≤ 18446744073709551615) : IntKind.wrap .u64 x = x := by
  simp only [IntKind.wrap, IntKind.bits, IntKind.signed]
  simp
  omega
theorem wrap_u32 {x : Int} (h : 0 ≤ x ∧ x ≤ 4294967295) : IntKind.wrap .u32 x = x := by
  simp only [IntKind.wrap, IntKind.bits, IntKind.signed]
  simp
  omega
theorem wrap_u8 {x : Int} (h : 0 ≤ x ∧ x ≤ 255) : IntKind.wrap .u8 x = x := by
  simp only [IntKind.wrap, IntKind.bits, IntKind.signed]
  simp
  omega
theorem toNat_cast (k : Nat) : Int.toNat (k : Int) = k := Int.toNat_natCast k
end Go.V
