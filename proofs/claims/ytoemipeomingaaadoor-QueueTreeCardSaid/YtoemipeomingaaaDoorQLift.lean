/- What comes in, as the contracts ask it: slices of records, slices of bytes. -/
import Derived.Test.YtoemipeomingaaaDoorQLawB
import Derived.Test.YtoemipeomingaaaDoorVcgP
namespace Go.Proofs.YtoemipeomingaaaDoor
open Go Go.V Go.ChangeShapes Go.WideShapes Go.ChangeAt Go.RowKit
set_option maxRecDepth 100000

theorem one_at {cs : List Value} {i : Nat} {v : Value} (h : (cs.drop i).take 1 = [v]) : cs[i]? = some v := by
  have h2 : ((cs.drop i).take 1)[0]? = some v := by rw [h]; rfl
  rw [List.getElem?_take, if_pos (by omega), List.getElem?_drop] at h2
  simpa using h2
section
variable {H : Type} {enc : TypeId × Value → H} {W : World} {b base : Nat} {r : Reach} {sp : Nat → Bool} {hd : Bool}
theorem rec_cells {fuel : Nat} {cs : List Value} {x : DataW H × List MemPlace} (h : DataW.trod enc Tryd.prog W base sp hd fuel 35 cs = some x) :
    cs.length = 27 ∧ ∃ r : Rec, r.path.length ≤ maxLen ∧ cs[0]? = some (sv r.path) ∧ cs[1]? = some (.int .i64 r.kind) ∧ cs[2]? = some (.bool r.del) ∧ cs[5]? = some (.int .i64 r.dev) := by
  obtain ⟨xs, n, _, _, hl, hxs, hf⟩ := DataW.trod_struct Tryd.underlying35 h
  have c35 : Tryd.prog.cellsOf 35 = 27 := by kernel_rfl
  have c9 : Tryd.prog.cellsOf 9 = 1 := by kernel_rfl
  have c3 : Tryd.prog.cellsOf 3 = 1 := by kernel_rfl
  have c4 : Tryd.prog.cellsOf 4 = 1 := by kernel_rfl
  have hx : ∀ i, i < 12 → ∃ y, xs[i]? = some y := fun i hi => ⟨_, List.getElem?_eq_getElem (by rw [hxs]; exact hi)⟩
  obtain ⟨y0, e0⟩ := hx 0 (by omega)
  obtain ⟨y1, e1⟩ := hx 1 (by omega)
  obtain ⟨y2, e2⟩ := hx 2 (by omega)
  obtain ⟨y5, e5⟩ := hx 5 (by omega)
  have f0 : DataW.trod enc Tryd.prog W base sp hd n 9 ((cs.drop 0).take (Tryd.prog.cellsOf 9)) = xs[0]? := hf 0 _ rfl
  have f1 : DataW.trod enc Tryd.prog W base sp hd n 3 ((cs.drop 1).take (Tryd.prog.cellsOf 3)) = xs[1]? := hf 1 _ rfl
  have f2 : DataW.trod enc Tryd.prog W base sp hd n 4 ((cs.drop 2).take (Tryd.prog.cellsOf 4)) = xs[2]? := hf 2 _ rfl
  have f5 : DataW.trod enc Tryd.prog W base sp hd n 3 ((cs.drop 5).take (Tryd.prog.cellsOf 3)) = xs[5]? := hf 5 _ rfl

  rw [e0, c9] at f0
  rw [e1, c3] at f1
  rw [e2, c4] at f2
  rw [e5, c3] at f5
  obtain ⟨s, h0, _, hs⟩ := DataW.trod_string Tryd.underlying9 f0
  obtain ⟨k, h1, _, _⟩ := DataW.trod_int Tryd.underlying3 f1
  obtain ⟨d, h2, _⟩ := DataW.trod_bool Tryd.underlying4 f2
  obtain ⟨v, h5, _, _⟩ := DataW.trod_int Tryd.underlying3 f5
  exact ⟨by rw [hl, c35], ⟨s.data.toList, k, d, v⟩, hs, one_at h0, one_at h1, one_at h2, one_at h5⟩
theorem open_recs {v : Value} {d : DataW H} {p : List MemPlace} (hv : Value.okWide Tryd.prog W r b 22 v) (h : DataW.Trod enc Tryd.prog W base sp hd 22 v d p) :
    ∃ (a : Option Addr) (len cap : Nat) (l : List Rec), Texts l ∧ RawR W.heap a len l ∧ v = .slice a len cap := by
  obtain ⟨a, len, cap, rfl⟩ := okWide_slice Tryd.underlying22 hv
  obtain ⟨fuel, hf⟩ := h
  have c35 : Tryd.prog.cellsOf 35 = 27 := by kernel_rfl
  rcases Go.Deep.open_slice Tryd.underlying22 hf with ⟨hc, _⟩ | ⟨x, ln, cp, m, n, D, Pl, hc, _, hl, _, hm, _, hx⟩
  · simp [Value.cells] at hc
    obtain ⟨rfl, rfl, rfl⟩ := hc
    exact ⟨none, 0, 0, [], (fun _ h => by cases h), ⟨rfl, fun h => absurd h (by omega)⟩, rfl⟩
  · simp [Value.cells] at hc
    obtain ⟨rfl, rfl, rfl⟩ := hc
    have hlm : len ≤ m := by rw [hm]; split <;> omega
    have key : ∀ k, ∃ r : Rec, r.path.length ≤ maxLen ∧ (k < len → cellAt W.heap (Addr.add (Addr.add x (k * 27)) 0) = some (sv r.path) ∧ cellAt W.heap (Addr.add (Addr.add x (k * 27)) 1) = some (.int .i64 r.kind) ∧
        cellAt W.heap (Addr.add (Addr.add x (k * 27)) 2) = some (.bool r.del) ∧ cellAt W.heap (Addr.add (Addr.add x (k * 27)) 5) = some (.int .i64 r.dev)) := by
      intro k
      by_cases hk : k < len
      · obtain ⟨cs', h2, h3⟩ := hx k (by omega)
        obtain ⟨hlen, r, hr, g0, g1, g2, g5⟩ := rec_cells h3
        rw [c35] at h2
        have h4 := World.cells?_some h2
        exact ⟨r, hr, fun _ => ⟨by rw [← cellAt_eq, h4.2.2 0 (by omega), g0], by rw [← cellAt_eq, h4.2.2 1 (by omega), g1], by rw [← cellAt_eq, h4.2.2 2 (by omega), g2], by rw [← cellAt_eq, h4.2.2 5 (by omega), g5]⟩⟩
      · exact ⟨r0, by simp [r0], fun h => absurd h hk⟩
    refine ⟨some x, len, cap, (List.range len).map fun k => Classical.choose (key k), ?_, ⟨by simp, fun _ => ⟨x, rfl, fun k r hk => ?_⟩⟩, rfl⟩
    · intro u hu
      simp only [List.mem_map] at hu
      obtain ⟨k, _, rfl⟩ := hu
      exact Nat.le_trans (Classical.choose_spec (key k)).1 (by simp [maxLen])
    · have hk' : k < len := by
        rcases Nat.lt_or_ge k len with h1 | h1
        · exact h1
        · rw [List.getElem?_eq_none (by simp; omega)] at hk; cases hk
      rw [List.getElem?_map, List.getElem?_range hk'] at hk
      injection hk with hk
      subst hk
      exact (Classical.choose_spec (key k)).2 hk'
theorem open_bytes {v : Value} {d : DataW H} {p : List MemPlace} (hv : Value.okWide Tryd.prog W r b 39 v) (h : DataW.Trod enc Tryd.prog W base sp hd 39 v d p) :
    ∃ (a : Option Addr) (len cap : Nat), SlU W.heap a len ∧ v = .slice a len cap := by
  obtain ⟨a, len, cap, rfl⟩ := okWide_slice Tryd.underlying39 hv
  obtain ⟨fuel, hf⟩ := h
  have c5 : Tryd.prog.cellsOf 5 = 1 := by kernel_rfl
  rcases Go.Deep.open_slice1 Tryd.underlying39 c5 hf with ⟨hc, _⟩ | ⟨x, ln, cp, m, n, V, D, Pl, hc, _, hl, _, hm, _, hx⟩
  · simp [Value.cells] at hc
    obtain ⟨rfl, rfl, rfl⟩ := hc
    exact ⟨none, 0, 0, (fun k hk => absurd hk (by omega)), rfl⟩
  · simp [Value.cells] at hc
    obtain ⟨rfl, rfl, rfl⟩ := hc
    have hlm : len ≤ m := by rw [hm]; split <;> omega
    refine ⟨some x, len, cap, fun k hk => ?_, rfl⟩
    obtain ⟨h2, h3⟩ := hx k (by omega)
    obtain ⟨n, hn, _, hw⟩ := DataW.trod_int Tryd.underlying5 h3
    have hb : 0 ≤ n ∧ n ≤ 255 := by simpa [Lit.wf, IntKind.min, IntKind.max, IntKind.signed, IntKind.bits] using hw
    injection hn with hn
    refine ⟨x, rfl, n.toNat, by omega, ?_⟩
    rw [Nat.mul_one, ← cellAt_eq, h2, hn, show ((n.toNat : Nat) : Int) = n by omega]
end
end Go.Proofs.YtoemipeomingaaaDoor
