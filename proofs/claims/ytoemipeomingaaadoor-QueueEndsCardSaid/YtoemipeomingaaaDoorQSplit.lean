/- Contracts: a text cut at its slashes by the library, and what paths make of it. -/
import Derived.Test.YtoemipeomingaaaDoorQRef
import Derived.Lib.Bytealg
import Derived.Laws.MakeOwn
namespace Go.Proofs.YtoemipeomingaaaDoor
open Go Go.V

theorem firstCut (s : Bs) : (∀ c ∈ s, c ≠ 47) ∨ ∃ a b, s = a ++ 47 :: b ∧ ∀ c ∈ a, c ≠ 47 := by
  induction s with
  | nil => exact .inl (fun c hc => by cases hc)
  | cons d r ih =>
    by_cases hd : d = 47
    · exact .inr ⟨[], r, by rw [hd]; rfl, fun c hc => by cases hc⟩
    · rcases ih with h | ⟨a, b, rfl, h⟩
      · exact .inl fun c hc => by
          rcases List.mem_cons.1 hc with e | e
          · rw [e]; exact hd
          · exact h c e
      · exact .inr ⟨d :: a, b, rfl, fun c hc => by
          rcases List.mem_cons.1 hc with e | e
          · rw [e]; exact hd
          · exact h c e⟩
theorem indexByte_none : ∀ (s : Bs), (∀ c ∈ s, c ≠ 47) → Lib.indexByte s 47 = -1
  | [], _ => rfl
  | c :: r, h => by
    have hc : (c == 47) = false := beq_eq_false_iff_ne.2 (h c List.mem_cons_self)
    have := indexByte_none r (fun d hd => h d (List.mem_cons_of_mem _ hd))
    simp [Lib.indexByte, hc, this]
theorem indexByte_some : ∀ (a b : Bs), (∀ c ∈ a, c ≠ 47) → Lib.indexByte (a ++ 47 :: b) 47 = (a.length : Int)
  | [], b, _ => by simp [Lib.indexByte]
  | c :: r, b, h => by
    have hc : (c == 47) = false := beq_eq_false_iff_ne.2 (h c List.mem_cons_self)
    have := indexByte_some r b (fun d hd => h d (List.mem_cons_of_mem _ hd))
    rw [List.cons_append, Lib.indexByte, hc, this]
    have : (((r.length : Nat) : Int) == -1) = false := by simp
    simp [this]
theorem x93 (s : Bs) (H0 : Heap) : SemX Tryd.prog 93 ⟨[sv s, .int .u8 (47 : Int)]⟩ H0 fun r H1 => r = .int .i64 ((s.count 47 : Nat) : Int) ∧ H1 = H0 := by
  intro w hw
  refine ⟨.int .i64 ((s.count 47 : Nat) : Int), w, ?_, Same.refl _, rfl, hw⟩
  rw [run_callFunc_extern Tryd.func93 (by kernel_rfl) (by kernel_rfl) (by kernel_rfl) (e := Extern.BytealgCount.count) (by kernel_rfl)]
  have := Lib.run_countString (P := Tryd.prog) ⟨⟨s⟩⟩ 47 w
  rw [show (⟨[sv s, .int .u8 (47 : Int)]⟩ : Array Value) = #[.string ⟨⟨s⟩⟩, .int .u8 47] from rfl, this]
  rfl
theorem x102 (s : Bs) (H0 : Heap) : SemX Tryd.prog 102 ⟨[sv s, .int .u8 (47 : Int)]⟩ H0 fun r H1 => r = .int .i64 (Lib.indexByte s 47) ∧ H1 = H0 := by
  intro w hw
  refine ⟨.int .i64 (Lib.indexByte s 47), w, ?_, Same.refl _, rfl, hw⟩
  rw [run_callFunc_extern Tryd.func102 (by kernel_rfl) (by kernel_rfl) (by kernel_rfl) (e := Extern.BytealgIndexByte.indexByte) (by kernel_rfl)]
  have := Lib.run_indexByteString (P := Tryd.prog) ⟨⟨s⟩⟩ 47 w
  rw [show (⟨[sv s, .int .u8 (47 : Int)]⟩ : Array Value) = #[.string ⟨⟨s⟩⟩, .int .u8 47] from rfl, this]
  rfl
theorem semX_mono {f : FuncId} {args : Array Value} {H : Heap} {R R' : Value → Heap → Prop} (h : SemX Tryd.prog f args H R) (hr : ∀ v H', R v H' → R' v H') : SemX Tryd.prog f args H R' :=
  fun w hw => let ⟨v, w', h1, h2, h3⟩ := h w hw; ⟨v, w', h1, h2, hr _ _ h3⟩
theorem Count_con (s : Bs) (H0 : Heap) : CallsH Tryd.prog 83 ⟨[sv s, sv [47]]⟩ H0 fun r H1 => r = .int .i64 ((s.count 47 : Nat) : Int) ∧ H1 = H0 := by
  refine strings_Count.ok ⟨fun h => (by cases h), fun _ => ⟨fun _ => ⟨47, ⟨by omega, rfl⟩, ?_⟩, fun h => (by cases h)⟩⟩
  refine semX_mono (x93 s H0) ?_
  rintro _ H1 ⟨rfl, rfl⟩
  exact ⟨_, rfl, rfl, rfl⟩
theorem Index_con (s : Bs) (hne : s ≠ [47]) (H0 : Heap) : CallsH Tryd.prog 84 ⟨[sv s, sv [47]]⟩ H0 fun r H1 => r = .int .i64 (Lib.indexByte s 47) ∧ H1 = H0 := by
  refine strings_Index.ok ?_
  refine CallsH.mono (R := fun r H1 => r = .int .i64 (Lib.indexByte s 47) ∧ H1 = H0) (internal_stringslite_Index.ok ⟨fun h => ?_, fun _ => ⟨fun _ => ⟨47, ⟨by omega, rfl⟩, ?_⟩, fun h => (by cases h)⟩⟩) ?_
  · exfalso
    have e : ([47] == s) = false := beq_eq_false_iff_ne.2 (Ne.symm hne)
    rw [e] at h
    cases h
  · refine CallsH.mono (R := fun r H1 => r = .int .i64 (Lib.indexByte s 47) ∧ H1 = H0) (internal_stringslite_IndexByte.ok ?_) ?_
    · refine semX_mono (x102 s H0) ?_
      rintro _ H1 ⟨rfl, rfl⟩
      exact ⟨_, rfl, rfl, rfl⟩
    · rintro _ H1 ⟨rfl, rfl⟩
      exact ⟨_, rfl, rfl, rfl⟩
  · rintro _ H1 ⟨rfl, rfl⟩
    exact ⟨_, rfl, rfl, rfl⟩
theorem Index_con' (s : Bs) (H0 : Heap) : CallsH Tryd.prog 84 ⟨[sv s, sv [47]]⟩ H0 fun r H1 => r = .int .i64 (Lib.indexByte s 47) ∧ H1 = H0 := by
  by_cases hne : s = [47]
  · subst hne
    refine strings_Index.ok ?_
    refine CallsH.mono (R := fun r H1 => r = .int .i64 (Lib.indexByte [47] 47) ∧ H1 = H0) (internal_stringslite_Index.ok ⟨fun _ => ⟨rfl, rfl⟩, fun h => (by cases h)⟩) ?_
    rintro _ H1 ⟨rfl, rfl⟩
    exact ⟨_, rfl, rfl, rfl⟩
  · exact Index_con s hne H0

def LSI (f : Bs → Int → Heap → Prop) : List Value → Heap → Prop
  | [.string ⟨⟨s⟩⟩, .int _ i], H => f s i H
  | _, _ => False
def LSIM (f : Int → Nat) : List Value → Heap → Nat
  | [.string _, .int _ i], _ => f i
  | _, _ => 0
theorem make_strs (n : Nat) (hn : n ≤ 100000001) (H : Heap) : SemH Tryd.prog (Instr.makeSlice 27 (.int .i64 (n : Int)) (.int .i64 (n : Int))) H fun r H1 =>
    ∃ g, r = .slice (some ⟨g, 0, none⟩) n n ∧ H.size ≤ g ∧ Ext H H1 ∧ Blk H1 g 9 ⟨strs (List.replicate n [])⟩ := by
  intro w hw
  subst hw
  have hu := descOf_und tab_ok (t := 27) (d := .slice 9) rfl (by simp)
  obtain ⟨j, hj, hjs, hjb, hz⟩ := tab_ok.info 9 ⟨.string, 1, 16, .string ⟨⟨[]⟩⟩⟩ rfl
  have hr := run_make (P := Tryd.prog) w 27 9 j _ hu hj hz .i64 .i64 (n : Int) (n : Int) (by omega) (Int.le_refl _) (by rw [hjb]; show (16 : Int) * n ≤ _; omega) (by omega)
  rw [toNat_cast, hjs] at hr
  refine ⟨_, _, hr, ⟨rfl, rfl, rfl, Nat.le_refl _⟩, w.heap.size, rfl, Nat.le_refl _, Ext.push _ _, ?_⟩
  have e : madeCells (Value.string ⟨⟨[]⟩⟩).cells (n * 1) = ⟨strs (List.replicate n [])⟩ := by
    apply Array.ext'
    simp only [madeCells, strs, List.map_replicate, Nat.mul_one]
    apply List.ext_getElem?
    intro i
    rcases Nat.lt_or_ge i n with h | h
    · simp [h, Value.cells, Nat.mod_one]
    · simp [h]
  show (w.heap.push _)[w.heap.size]? = _
  rw [e]
  simp
theorem strs_set (l : List Bs) (n : Nat) (x : Bs) : (strs (l ++ List.replicate (n + 1) [])).set l.length (sv x) = strs ((l ++ [x]) ++ List.replicate n []) := by
  simp [strs, List.replicate_succ]
theorem genSplit_con (s : Bs) (hs : s.length ≤ 100000000) (H0 : Heap) : CallsH Tryd.prog 68 ⟨[sv s, sv [47], .int .i64 (0 : Int), .int .i64 (-1 : Int)]⟩ H0 fun r H1 =>
    ∃ (a : Option Addr) (c : Nat), r = .slice a (piecesB s).length c ∧ SlS H1 a (piecesB s).length (piecesB s) ∧ Ext H0 H1 := by
  have hpl := piecesB_len s
  have hcl := List.count_le_length (a := (47 : UInt8)) (l := s)
  refine strings_genSplit.ok ⟨fun h => (by cases h), fun _ => ⟨fun h => (by cases h), fun _ => ⟨fun _ => ?_, fun h => (by cases h)⟩⟩⟩
  refine (Count_con s H0).mono ?_
  rintro _ H2 ⟨rfl, rfl⟩
  refine ⟨_, rfl, ?_⟩
  have hn : (if IntKind.wrap .i64 (((List.length s : Nat) : Int) + 1) < IntKind.wrap .i64 (((s.count 47 : Nat) : Int) + 1) then IntKind.wrap .i64 (((List.length s : Nat) : Int) + 1) else IntKind.wrap .i64 (((s.count 47 : Nat) : Int) + 1)) = (((piecesB s).length : Nat) : Int) := by
    rw [wrap_i64 (by omega), wrap_i64 (by omega), hpl]
    split <;> omega
  rw [hn]
  refine (make_strs _ (by omega) _).mono ?_
  rintro _ H3 ⟨g, rfl, hg, e3, b3⟩
  refine ⟨_, _, _, rfl, ?_⟩
  have hw1 : IntKind.wrap .i64 ((((piecesB s).length : Nat) : Int) - 1) = (((piecesB s).length - 1 : Nat) : Int) := by rw [wrap_i64 (by omega)]; omega
  rw [hw1]
  -- the last piece
  have fin : ∀ (k : Nat) (l : List Bs) (x : Bs) (H : Heap), k = (piecesB s).length - 1 → piecesB s = l ++ [x] → l.length = k → Ext H2 H → Blk H g 9 ⟨strs (l ++ List.replicate ((piecesB s).length - k) [])⟩ →
      ∃ ad61, (some (⟨g, 0, none⟩ : Addr) = some ad61 ∧ 0 ≤ (k : Int) ∧ (k : Int) < (((piecesB s).length : Nat) : Int)) ∧ ∃ H6, wr1 H (Addr.add ad61 (Int.toNat (k : Int) * 1)) (sv x) = some H6 ∧
        (0 ≤ (IntKind.wrap .i64 ((k : Int) + (1 : Int))) ∧ (IntKind.wrap .i64 ((k : Int) + (1 : Int))) ≤ (((piecesB s).length : Nat) : Int)) ∧
        (∃ (a : Option Addr) (c : Nat), (Value.slice (if (piecesB s).length = 0 then some (⟨g, 0, none⟩ : Addr) else Option.map (fun z => Addr.add z (0 * 1)) (some ⟨g, 0, none⟩)) ((Int.toNat (IntKind.wrap .i64 ((k : Int) + (1 : Int)))) - 0) ((piecesB s).length - 0)) = .slice a (piecesB s).length c ∧ SlS H6 a (piecesB s).length (piecesB s) ∧ Ext H2 H6) := by
    intro k l x H hk hp hl e b
    have hpk : (piecesB s).length - k = 0 + 1 := by omega
    rw [hpk] at b
    have hwr := b.wr1A (o := 0) (i := k) (v := sv x) (by simp [strs]; omega) rfl
    rw [show 0 + k = k from Nat.zero_add k] at hwr
    have hset : (⟨strs (l ++ List.replicate (0 + 1) [])⟩ : Array Value).setIfInBounds k (sv x) = ⟨strs (l ++ [x])⟩ := by
      apply Array.ext'
      rw [Array.toList_setIfInBounds, ← hl, strs_set]
      simp
    rw [hset] at hwr
    refine ⟨⟨g, 0, none⟩, ⟨rfl, by omega, by omega⟩, _, by rw [toNat_cast, Nat.mul_one]; exact hwr, ⟨by rw [wrap_i64 (by omega)]; omega, by rw [wrap_i64 (by omega)]; omega⟩, ?_⟩
    rw [if_neg (by omega), wrap_i64 (by omega)]
    refine ⟨some ⟨g, 0, none⟩, (piecesB s).length - 0, ?_, ⟨rfl, fun _ => ⟨_, rfl, fun q y hq => ?_⟩⟩, e.upd hg⟩
    · rw [show ((k : Int) + 1).toNat - 0 = (piecesB s).length by omega]
      rfl
    · rw [b.upd_same.cellA, Nat.zero_add, Nat.mul_one]
      rw [hp] at hq
      simp only [strs, List.getElem?_toArray, List.getElem?_map, hq]
      rfl
  refine ⟨LSI fun r i H => ∃ (k : Nat) (l : List Bs), i = k ∧ k ≤ (piecesB s).length - 1 ∧ l.length = k ∧ piecesB s = l ++ piecesB r ∧ r.length ≤ s.length ∧ Ext H2 H ∧ Blk H g 9 ⟨strs (l ++ List.replicate ((piecesB s).length - k) [])⟩,
    LSIM fun i => (((piecesB s).length : Int) - i).toNat, ⟨⟨_, rfl⟩, ⟨_, rfl⟩, 0, [], rfl, by omega, rfl, rfl, Nat.le_refl _, e3, b3⟩, ?_⟩
  rintro r i H4 ⟨k, l, rfl, hk, hl, hp, hrl, e4, b4⟩
  have hlen : (piecesB s).length = k + (piecesB r).length := by rw [hp, List.length_append, hl]
  refine ⟨fun h => ?_, fun h => ?_⟩
  · have hk' : k < (piecesB s).length - 1 := by have := of_decide_eq_true h; omega
    rcases firstCut r with hns | ⟨a, b, rfl, ha⟩
    · rw [piecesB_noslash r hns] at hlen
      simp at hlen
      omega
    · refine (Index_con' _ _).mono ?_
      rintro _ H5 ⟨rfl, rfl⟩
      rw [indexByte_some a b ha]
      have hal : a.length + b.length + 1 ≤ s.length := by simpa [Nat.add_assoc] using hrl
      refine ⟨_, rfl, fun h2 => ?_, fun _ => ?_⟩
      · have := of_decide_eq_true h2
        omega
      · rw [piecesB_cut a b ha] at hp
        rw [show (a.length : Int) + 0 = a.length by omega, wrap_i64 (x := (a.length : Int)) (by omega), wrap_i64 (x := (a.length : Int) + ((List.length [(47 : UInt8)] : Nat) : Int)) (by simp <;> omega)]
        simp only [toNat_cast, Nat.sub_zero, List.drop_zero]
        have e1 : List.take a.length (a ++ 47 :: b) = a := by simp
        rw [e1]
        obtain ⟨q, hq⟩ : ∃ q, (piecesB s).length - k = q + 1 := ⟨(piecesB s).length - k - 1, by omega⟩
        rw [hq] at b4
        have hwr := b4.wr1A (o := 0) (i := k) (v := sv a) (by simp [strs]; omega) rfl
        rw [show 0 + k = k from Nat.zero_add k] at hwr
        have hset : (⟨strs (l ++ List.replicate (q + 1) [])⟩ : Array Value).setIfInBounds k (sv a) = ⟨strs ((l ++ [a]) ++ List.replicate q [])⟩ := by
          apply Array.ext'
          rw [Array.toList_setIfInBounds, ← hl, strs_set]
        rw [hset] at hwr
        have e2 : Int.toNat ((a.length : Int) + ((List.length [(47 : UInt8)] : Nat) : Int)) = a.length + 1 := by simp <;> omega
        rw [e2]
        have e5 : List.take ((a ++ 47 :: b).length - (a.length + 1)) (List.drop (a.length + 1) (a ++ 47 :: b)) = b := by
          rw [List.take_of_length_le (by simp; omega)]
          rw [show a ++ 47 :: b = (a ++ [47]) ++ b by simp, show a.length + 1 = (a ++ [47]).length by simp, List.drop_left]
        rw [e5]
        refine ⟨⟨by omega, by simp; omega⟩, ⟨g, 0, none⟩, ⟨rfl, by omega, by omega⟩, _, by rw [Nat.mul_one]; exact hwr, ⟨by simp <;> omega, by simp <;> omega⟩, ⟨_, rfl⟩, ⟨_, rfl⟩, ⟨k + 1, l ++ [a], ?_, by omega, by simp [hl], by rw [hp]; simp, by omega, e4.upd hg, ?_⟩, ?_⟩
        · rw [wrap_i64 (by omega)]; omega
        · rw [show (piecesB s).length - (k + 1) = q by omega]
          exact b4.upd_same
        · show (((piecesB s).length : Int) - IntKind.wrap .i64 ((k : Int) + 1)).toNat < (((piecesB s).length : Int) - (k : Int)).toNat
          rw [wrap_i64 (by omega)]
          omega
  · have hk' : k = (piecesB s).length - 1 := by have := of_decide_eq_false h; omega
    have h1 : (piecesB r).length = 1 := by omega
    have hr : piecesB r = [r] := by
      rcases firstCut r with hns | ⟨a, b, rfl, ha⟩
      · exact piecesB_noslash r hns
      · rw [piecesB_cut a b ha] at h1
        have := List.length_pos_iff.2 (piecesB_ne b)
        simp at h1
        exact absurd h1 (piecesB_ne b)
    rw [hr] at hp
    exact fin k l r H4 hk' hp hl e4 b4
theorem Split_con (s : Bs) (hs : s.length ≤ 100000000) (H0 : Heap) : CallsH Tryd.prog 55 ⟨[sv s, sv [47]]⟩ H0 fun r H1 =>
    ∃ (a : Option Addr) (c : Nat), r = .slice a (piecesB s).length c ∧ SlS H1 a (piecesB s).length (piecesB s) ∧ Ext H0 H1 := by
  refine strings_Split.ok ?_
  refine (genSplit_con s hs H0).mono ?_
  rintro _ H1 ⟨a, c, rfl, h1, h2⟩
  exact ⟨_, _, _, rfl, a, c, rfl, h1, h2⟩
end Go.Proofs.YtoemipeomingaaaDoor
