/- Contracts of what compares records: of a record with itself; of lists; of texts. -/
import Derived.Test.YtoemipeomingaaaDoorQRref
namespace Go.Proofs.YtoemipeomingaaaDoor
open Go Go.V

theorem eqU : EqA Tryd.prog 32 ⟨u16⟩ ⟨u16⟩ true := ⟨fun w => by kernel_rfl, fun w => by kernel_rfl⟩
theorem rc_3 (r : Rec) : (rc r)[3]? = some (.int .i64 0) := rfl
theorem rc_4 (r : Rec) : (rc r)[4]? = some (.int .i64 0) := rfl
theorem rc_22 (r : Rec) : (rc r)[22]? = some (.int .i64 0) := rfl
theorem rc_23 (r : Rec) : (rc r)[23]? = some (.slice none 0 0) := rfl
theorem rc_24 (r : Rec) : (rc r)[24]? = some (sv []) := rfl
theorem rc_25 (r : Rec) : (rc r)[25]? = some (.int .i64 0) := rfl
theorem rc_26 (r : Rec) : (rc r)[26]? = some (.int .i64 0) := rfl
theorem rc_vec {H : Heap} {g : Nat} {t : TypeId} {r : Rec} (h : Blk H g t (rc r)) : RdN H (Addr.add ⟨g, 0, none⟩ 6) 16 ⟨u16⟩ := by
  refine ⟨rfl, fun i hi => ?_⟩
  rw [add_add', h.cellA, Nat.zero_add]
  simp only [rc, List.getElem?_toArray]
  unfold rcl
  rw [List.append_assoc, List.getElem?_append_right (by simp), List.getElem?_append_left (by simp [u16]; omega)]
  congr 1
  simp
theorem hashes_con (H0 : Heap) : CallsH Tryd.prog 90 ⟨[.slice none 0 0, .slice none 0 0]⟩ H0 fun r H1 => r = .int .i64 0 ∧ Ext H0 H1 := by
  refine caravanref06_hashes.ok ?_
  refine ⟨LI fun i H => i = 0 ∧ H = H0, fun _ _ => 0, ⟨⟨_, rfl⟩, rfl, rfl⟩, ?_⟩
  rintro i H1 ⟨rfl, rfl⟩
  exact ⟨fun h => by simp at h, fun _ => ⟨rfl, Ext.refl _⟩⟩
theorem blocks_con (H0 : Heap) : CallsH Tryd.prog 80 ⟨[.slice none 0 0, .slice none 0 0]⟩ H0 fun r H1 => r = .bool true ∧ Ext H0 H1 := by
  refine caravanref06_blocks.ok ⟨fun _ => ?_, fun h => by simp at h⟩
  refine (hashes_con H0).mono ?_
  rintro _ H1 ⟨rfl, e1⟩
  exact ⟨_, rfl, rfl, e1⟩
theorem rContent_con (r : Rec) (H0 : Heap) : CallsH Tryd.prog 65 ⟨[.agg (rc r), .agg (rc r)]⟩ H0 fun v H1 => v = .bool true ∧ Ext H0 H1 := by
  refine caravanref06_Content.ok ?_
  refine st_new fun g1 H1 hg1 e1 b1 => st_new fun g2 H2 hg2 e2 b2 => ?_
  have b1 := b1.ext e2
  refine ⟨_, b1.rcell (rc_del r), _, b2.rcell (rc_del r), _, fun _ => b1.rcell (rc_kind r), _, fun _ => b2.rcell (rc_kind r), _, fun _ => b1.rcell (rc_3 r), _, fun _ => b2.rcell (rc_3 r), _, fun _ => b1.rcell (rc_24 r), _, fun _ => b2.rcell (rc_24 r),
    _, _, _, fun _ => b1.rcell (rc_23 r), _, _, _, fun _ => b2.rcell (rc_23 r), fun _ => ?_, fun h => by simp at h⟩
  refine (blocks_con H2).mono ?_
  rintro _ H3 ⟨rfl, e3⟩
  exact ⟨_, rfl, rfl, (e1.trans e2).trans e3⟩
theorem rSame_con (r : Rec) (H0 : Heap) : CallsH Tryd.prog 51 ⟨[.agg (rc r), .agg (rc r)]⟩ H0 fun v H1 => v = .bool true ∧ Ext H0 H1 := by
  refine caravanref06_Same.ok ?_
  refine st_new fun g1 H1 hg1 e1 b1 => st_new fun g2 H2 hg2 e2 b2 => ?_
  have b1 := b1.ext e2
  refine ⟨_, b1.rcell (rc_path r), _, b2.rcell (rc_path r), _, fun _ => b1.rcell (rc_4 r), _, fun _ => b2.rcell (rc_4 r), _, fun _ => b1.rcell (rc_dev r), _, fun _ => b2.rcell (rc_dev r), _, fun _ => rc_vec b1, _, fun _ => rc_vec b2, true, fun _ => eqU,
    _, fun _ => b1.rcell (rc_22 r), _, fun _ => b2.rcell (rc_22 r), _, fun _ => b1.rcell (rc_26 r), _, fun _ => b2.rcell (rc_26 r), ?_⟩
  refine st_rdc b1 (rc_size _) (st_rdc b2 (rc_size _) ⟨fun _ => ?_, fun h => by simp at h⟩)
  refine (rContent_con r H2).mono ?_
  rintro _ H3 ⟨rfl, e3⟩
  exact ⟨_, rfl, rfl, (e1.trans e2).trans e3⟩
theorem Whole_con (r : Rec) (H0 : Heap) : CallsH Tryd.prog 35 ⟨[.agg (rc r), .agg (rc r)]⟩ H0 fun v H1 => v = .bool true ∧ Ext H0 H1 := by
  refine caravanref06_Whole.ok ?_
  refine st_new fun g1 H1 hg1 e1 b1 => st_new fun g2 H2 hg2 e2 b2 => ?_
  have b1 := b1.ext e2
  refine ⟨_, b1.rcell (rc_25 r), _, b2.rcell (rc_25 r), ?_⟩
  refine st_rdc b1 (rc_size _) (st_rdc b2 (rc_size _) ⟨fun _ => ?_, fun h => by simp at h⟩)
  refine (rSame_con r H2).mono ?_
  rintro _ H3 ⟨rfl, e3⟩
  exact ⟨_, rfl, rfl, (e1.trans e2).trans e3⟩
theorem List_con (l : List Rec) (a b : Option Addr) (n c c2 : Nat) (H0 : Heap) (h1 : SlR H0 a n l) (h2 : SlR H0 b n l) (hn : n ≤ 1000000) :
    CallsH Tryd.prog 12 ⟨[.slice a n c, .slice b n c2]⟩ H0 fun v H1 => v = .bool true ∧ Ext H0 H1 := by
  have hln := h1.1
  refine caravanref06_List.ok ⟨fun h => by simp at h, fun _ => ?_⟩
  refine ⟨LI fun i H => ∃ k : Nat, i = k ∧ k ≤ n ∧ Ext H0 H, LM fun i => ((n : Int) - i).toNat, ⟨⟨_, rfl⟩, 0, rfl, by omega, Ext.refl _⟩, ?_⟩
  rintro i H1 ⟨k, rfl, hk, e1⟩
  refine ⟨fun h => ?_, fun _ => ⟨rfl, e1⟩⟩
  have hk' : k < l.length := by have := of_decide_eq_true h; omega
  obtain ⟨ad, ha, hrd⟩ := h1.2 (by omega)
  obtain ⟨ad2, ha2, hrd2⟩ := h2.2 (by omega)
  have hgk : l[k]? = some l[k] := List.getElem?_eq_getElem hk'
  rw [toNat_cast]
  refine ⟨ad, ⟨ha, by omega, by omega⟩, _, (hrd k _ hgk).ext e1, ad2, ⟨ha2, by omega, by omega⟩, _, (hrd2 k _ hgk).ext e1, ?_⟩
  refine (Whole_con l[k] H1).mono ?_
  rintro _ H2 ⟨rfl, e2⟩
  have hw : IntKind.wrap .i64 ((k : Int) + 1) = ((k + 1 : Nat) : Int) := by rw [wrap_i64 (by omega)]; omega
  rw [hw]
  refine ⟨_, rfl, e2, fun h => by simp at h, fun _ => ⟨⟨_, rfl⟩, ⟨k + 1, rfl, by omega, e1.trans e2⟩, ?_⟩⟩
  show ((n : Int) - ((k + 1 : Nat) : Int)).toNat < ((n : Int) - (k : Int)).toNat
  omega
theorem Texts_con (l : List Bs) (a b : Option Addr) (n c c2 : Nat) (H0 : Heap) (h1 : SlS H0 a n l) (h2 : SlS H0 b n l) (hn : n ≤ 1000000) :
    CallsH Tryd.prog 18 ⟨[.slice a n c, .slice b n c2]⟩ H0 fun v H1 => v = .bool true ∧ H1 = H0 := by
  have hln := h1.1
  refine caravanref02_Same.ok ⟨fun h => by simp at h, fun _ => ?_⟩
  refine ⟨LI fun i H => ∃ k : Nat, i = k ∧ k ≤ n ∧ H = H0, LM fun i => ((n : Int) - i).toNat, ⟨⟨_, rfl⟩, 0, rfl, by omega, rfl⟩, ?_⟩
  rintro i H1 ⟨k, rfl, hk, rfl⟩
  refine ⟨fun h => ?_, fun _ => ⟨rfl, rfl⟩⟩
  have hk' : k < l.length := by have := of_decide_eq_true h; omega
  obtain ⟨ad, ha, hrd⟩ := h1.2 (by omega)
  obtain ⟨ad2, ha2, hrd2⟩ := h2.2 (by omega)
  have hgk : l[k]? = some l[k] := List.getElem?_eq_getElem hk'
  rw [toNat_cast]
  have hw : IntKind.wrap .i64 ((k : Int) + 1) = ((k + 1 : Nat) : Int) := by rw [wrap_i64 (by omega)]; omega
  rw [hw]
  refine ⟨ad, ⟨ha, by omega, by omega⟩, _, hrd k _ hgk, ad2, ⟨ha2, by omega, by omega⟩, _, hrd2 k _ hgk, fun h => by simp at h, fun _ => ⟨⟨_, rfl⟩, ⟨k + 1, rfl, by omega, rfl⟩, ?_⟩⟩
  show ((n : Int) - ((k + 1 : Nat) : Int)).toNat < ((n : Int) - (k : Int)).toNat
  omega
/-! ### The program's own -/
theorem Version_con (r : Rec) (H0 : Heap) : CallsH Tryd.prog 39 ⟨[.agg (rc r), .agg (rc r)]⟩ H0 fun v H1 => v = .bool true ∧ Ext H0 H1 := by
  refine record_Version.ok ?_
  refine st_new fun g1 H1 hg1 e1 b1 => st_new fun g2 H2 hg2 e2 b2 => ?_
  have b1 := b1.ext e2
  refine ⟨_, rc_vec b1, _, rc_vec b2, true, eqU, _, fun _ => b1.rcell (rc_del r), _, fun _ => b2.rcell (rc_del r), ?_, e1.trans e2⟩
  simp
theorem Equal_con (H0 : Heap) : CallsH Tryd.prog 53 ⟨[.slice none 0 0, .slice none 0 0]⟩ H0 fun v H1 => v = .bool true ∧ Ext H0 H1 := by
  refine slices_Equal_api_Hash_api_Hash.ok ⟨fun h => by simp at h, fun _ => ?_⟩
  refine ⟨LI fun i H => i = 0 ∧ H = H0, fun _ _ => 0, ⟨⟨_, rfl⟩, rfl, rfl⟩, ?_⟩
  rintro i H1 ⟨rfl, rfl⟩
  exact ⟨fun h => by simp at h, fun _ => ⟨rfl, Ext.refl _⟩⟩
theorem Content_con (r : Rec) (H0 : Heap) : CallsH Tryd.prog 40 ⟨[.agg (rc r), .agg (rc r)]⟩ H0 fun v H1 => v = .bool true ∧ Ext H0 H1 := by
  refine record_Content.ok ?_
  refine st_new fun g1 H1 hg1 e1 b1 => st_new fun g2 H2 hg2 e2 b2 => ?_
  have b1 := b1.ext e2
  refine ⟨_, b1.rcell (rc_del r), _, b2.rcell (rc_del r), _, fun _ => b1.rcell (rc_kind r), _, fun _ => b2.rcell (rc_kind r), _, fun _ => b1.rcell (rc_3 r), _, fun _ => b2.rcell (rc_3 r),
    _, _, _, fun _ => b1.rcell (rc_23 r), _, _, _, fun _ => b2.rcell (rc_23 r), fun _ => ?_, fun h => by simp at h⟩
  refine (Equal_con H2).mono ?_
  rintro _ H3 ⟨rfl, e3⟩
  refine ⟨_, rfl, _, fun _ => (b1.ext e3).rcell (rc_24 r), _, fun _ => (b2.ext e3).rcell (rc_24 r), ?_, (e1.trans e2).trans e3⟩
  simp
theorem Same_con (r : Rec) (H0 : Heap) : CallsH Tryd.prog 26 ⟨[.agg (rc r), .agg (rc r)]⟩ H0 fun v H1 => v = .bool true ∧ Ext H0 H1 := by
  refine record_Same.ok ?_
  refine st_new fun g1 H1 hg1 e1 b1 => st_new fun g2 H2 hg2 e2 b2 => ?_
  have b1 := b1.ext e2
  refine st_rd b1 (rc_size _) (st_rd b2 (rc_size _) ?_)
  refine (Version_con r H2).mono ?_
  rintro _ H3 ⟨rfl, e3⟩
  have b1 := b1.ext e3
  have b2 := b2.ext e3
  refine ⟨_, rfl, ?_⟩
  refine st_rdc b1 (rc_size _) (st_rdc b2 (rc_size _) ⟨fun _ => ?_, fun h => by simp at h⟩)
  refine (Content_con r H3).mono ?_
  rintro _ H4 ⟨rfl, e4⟩
  have b1 := b1.ext e4
  have b2 := b2.ext e4
  refine ⟨_, rfl, _, fun _ => b1.rcell (rc_path r), _, fun _ => b2.rcell (rc_path r), _, fun _ => b1.rcell (rc_4 r), _, fun _ => b2.rcell (rc_4 r), _, fun _ => b1.rcell (rc_dev r), _, fun _ => b2.rcell (rc_dev r),
    _, fun _ => b1.rcell (rc_22 r), _, fun _ => b2.rcell (rc_22 r), _, fun _ => b1.rcell (rc_26 r), _, fun _ => b2.rcell (rc_26 r), ?_, ((e1.trans e2).trans e3).trans e4⟩
  simp
end Go.Proofs.YtoemipeomingaaaDoor
