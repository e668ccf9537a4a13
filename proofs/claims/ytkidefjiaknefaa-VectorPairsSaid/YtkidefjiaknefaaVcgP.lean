/- From a call over the heap to a row: what the rows ask of the world behind a law. -/
import Derived.Test.YtkidefjiaknefaaVcgN
import Derived.ProofKit
import Derived.OpenShut
import Derived.ShutString
import Derived.ChangeOld
import Derived.Below
import Derived.Carry
import Derived.Deep.Slices
import Derived.DataReads
namespace Go.V
open Go Go.ChangeShapes Go.WideShapes Go.ChangeAt Go.RowKit

theorem below_of {w w' : World} (hs : Same w w') (he : Ext w.heap w'.heap) : Below w.heap.size w w' := ⟨hs.os, hs.tape, hs.output, he.size, he.block⟩

/-- every argument reads as it did -/
theorem trodAll_stays {H : Type} {enc : TypeId × Value → H} {P : Program} (hl : laidOutB P = true) {W W' : World} (hb : Below W.heap.size W W') :
    ∀ (ts : List TypeId) (vs : List Value) (ds : List (DataW H)) (ps : List MemPlace), ts.all (fun t => P.readableRec t && decide (t < P.types.size)) = true →
      DataW.TrodAll enc P W 0 (fun _ => true) true ts vs ds ps → DataW.TrodAll enc P W' 0 (fun b => decide (b < W.heap.size)) true ts vs ds ps
  | [], vs, ds, ps, _, h => by
    cases vs <;> cases ds <;> simp [DataW.TrodAll] at h ⊢
    exact h
  | t :: ts, vs, ds, ps, ha, h => by
    obtain ⟨v, vs', d, ds', p, q, rfl, rfl, rfl, h1, h2⟩ := trodAll_cons h
    rw [List.all_cons, Bool.and_eq_true, Bool.and_eq_true] at ha
    refine ⟨p, q, ?_, trodAll_stays hl hb ts vs' ds' q ha.2 h2, rfl⟩
    have lt : ∀ x ∈ p, x.block < W.heap.size := by obtain ⟨m, hm⟩ := h1; exact DataW.trod_lt m _ _ _ hm
    exact Below.trod hl ha.1.1 (of_decide_eq_true ha.1.2) h1 hb lt

/-- one cell of an array of integers -/
theorem drop_take_one (l : List Value) (i : Nat) : (l.drop (i * 1)).take 1 = match l[i]? with | some v => [v] | none => [] := by
  rw [Nat.mul_one]
  rcases Nat.lt_or_ge i l.length with h | h
  · rw [List.drop_eq_getElem_cons h, List.getElem?_eq_getElem h]; rfl
  · rw [List.drop_eq_nil_of_le h, List.getElem?_eq_none h]; rfl
/-- the cells of a vector that came in -/
theorem trod_vec {H : Type} {enc : TypeId × Value → H} {P : Program} {W : World} {base : Nat} {sp : Nat → Bool} {hd : Bool} {t e : TypeId} (ht : P.underlying t = some (.array 16 e)) (he : P.underlying e = some (.int .u32)) (h1 : P.cellsOf e = 1) (h16 : P.cellsOf t = 16)
    {cs : List Value} {fuel : Nat} {x : DataW H × List MemPlace} (h : DataW.trod enc P W base sp hd fuel t cs = some x) : ∃ u : Vec, VOk u ∧ cs = (vc u).toList := by
  obtain ⟨xs, m, _, ex, hcs, hl, hel⟩ := DataW.trod_array ht h
  rw [h16] at hcs
  have key : ∀ i, i < 16 → ∃ n : Nat, cs[i]? = some (.int .u32 (n : Int)) ∧ n < 4294967296 := by
    intro i hi
    have := hel i hi
    rw [h1, drop_take_one, List.getElem?_eq_getElem (show i < cs.length by omega), List.getElem?_eq_getElem (show i < xs.length by omega)] at this
    obtain ⟨n, hn, _, hw⟩ := DataW.trod_int he this
    have hb := bounds_u32 hw
    refine ⟨n.toNat, ?_, by omega⟩
    rw [List.getElem?_eq_getElem (show i < cs.length by omega)]
    injection hn with hn
    rw [hn, show ((n.toNat : Nat) : Int) = n by omega]
  refine ⟨(List.range 16).map fun i => match cs[i]? with | some (Value.int _ n) => n.toNat | _ => 0, ⟨by simp, fun y hy => ?_⟩, ?_⟩
  · simp only [List.mem_map, List.mem_range] at hy
    obtain ⟨i, hi, rfl⟩ := hy
    obtain ⟨n, hn, hb⟩ := key i hi
    rw [hn]
    simpa using hb
  · apply List.ext_getElem?
    intro i
    rcases Nat.lt_or_ge i 16 with hi | hi
    · obtain ⟨n, hn, _⟩ := key i hi
      rw [hn]
      simp only [vc, List.map_map, List.getElem?_map, List.getElem?_range hi, Option.map_some, Function.comp, hn]
      simp
    · rw [List.getElem?_eq_none (by omega), List.getElem?_eq_none (by simp [vc]; omega)]
theorem open_vec {H : Type} {enc : TypeId × Value → H} {P : Program} {W : World} {b base : Nat} {r : Reach} {sp : Nat → Bool} {hd : Bool} {t e : TypeId} (ht : P.underlying t = some (.array 16 e)) (he : P.underlying e = some (.int .u32)) (h1 : P.cellsOf e = 1) (h16 : P.cellsOf t = 16)
    {v : Value} {d : DataW H} {p : List MemPlace} (hv : Value.okWide P W r b t v) (h : DataW.Trod enc P W base sp hd t v d p) : ∃ u : Vec, VOk u ∧ v = .agg (vc u) := by
  obtain ⟨cs, rfl, _, _⟩ : ∃ cs, v = .agg cs ∧ cs.size = P.cellsOf t ∧ Row.okWide P W r b t cs := by
    simpa [Value.okWide, ht] using hv
  obtain ⟨fuel, hf⟩ := h
  obtain ⟨u, hu, hc⟩ := trod_vec ht he h1 h16 hf
  refine ⟨u, hu, ?_⟩
  congr 1
  exact Array.ext' (by simpa [Value.cells] using hc)
/-- a slice of vectors that came in -/
theorem open_vecs {H : Type} {enc : TypeId × Value → H} {P : Program} {W : World} {b base : Nat} {r : Reach} {sp : Nat → Bool} {hd : Bool} {ts t e : TypeId} (hts : P.underlying ts = some (.slice t)) (ht : P.underlying t = some (.array 16 e)) (he : P.underlying e = some (.int .u32)) (h1 : P.cellsOf e = 1) (h16 : P.cellsOf t = 16)
    {v : Value} {d : DataW H} {p : List MemPlace} (hv : Value.okWide P W r b ts v) (h : DataW.Trod enc P W base sp hd ts v d p) :
    ∃ (a : Option Addr) (len cap : Nat) (l : List Vec), (∀ u ∈ l, VOk u) ∧ SlV W.heap a len l ∧ (a = none → len = 0 ∧ cap = 0) ∧ v = .slice a len cap := by
  obtain ⟨a, len, cap, rfl⟩ := okWide_slice hts hv
  obtain ⟨fuel, hf⟩ := h
  rcases Go.Deep.open_slice hts hf with ⟨hc, _⟩ | ⟨x, ln, cp, m, n, D, Pl, hc, _, hl, _, hm, _, hx⟩
  · simp [Value.cells] at hc
    obtain ⟨rfl, rfl, rfl⟩ := hc
    exact ⟨none, 0, 0, [], by simp, ⟨rfl, fun h => absurd h (by omega)⟩, fun _ => ⟨rfl, rfl⟩, rfl⟩
  · simp [Value.cells] at hc
    obtain ⟨rfl, rfl, rfl⟩ := hc
    have hlm : len ≤ m := by rw [hm]; split <;> omega
    have key : ∀ k, ∃ u : Vec, VOk u ∧ (k < len → RdN W.heap (x.add (k * 16)) 16 (vc u)) := by
      intro k
      by_cases hk : k < len
      · obtain ⟨cs', h2, h3⟩ := hx k (by omega)
        obtain ⟨u, hu, rfl⟩ := trod_vec ht he h1 h16 h3
        rw [h16] at h2
        have h4 := World.cells?_some h2
        exact ⟨u, hu, fun _ => ⟨by rw [vc_size, hu.1], fun i hi => by rw [← cellAt_eq, h4.2.2 i hi]; simp⟩⟩
      · exact ⟨zeroV, zeroV_ok, fun h => absurd h hk⟩
    refine ⟨some x, len, cap, (List.range len).map fun k => Classical.choose (key k), ?_, ⟨by simp, fun _ => ⟨x, rfl, fun k hk => ?_⟩⟩, (by intro h; cases h), rfl⟩
    · intro u hu
      simp only [List.mem_map] at hu
      obtain ⟨k, _, rfl⟩ := hu
      exact (Classical.choose_spec (key k)).1
    · have hk' : k < len := by simpa using hk
      rw [List.getElem_map, List.getElem_range]
      exact (Classical.choose_spec (key k)).2 hk'
end Go.V
