/- The comparing closure, as the sort's contract asks for it. -/
import Derived.Test.YtoemipeomingaaaDoorQIns2
import Derived.Test.YtoemipeomingaaaDoorQSort0
namespace Go.Proofs.YtoemipeomingaaaDoor
open Go Go.V Go.Sort

theorem sorted1_con (a b : Rec) (ha : a.path.length ≤ 100000000) (hb : b.path.length ≤ 100000000) (H0 : Heap) :
    CallsH Tryd.prog 45 ⟨[.agg (rc a), .agg (rc b)]⟩ H0 fun r H1 => r = .int .i64 (cmpB a.path b.path) ∧ Ext H0 H1 := by
  refine queue_sorted_1.ok ?_
  refine st_new fun g2 H1 hg2 e1 b2 => ?_
  refine st_new fun g3 H2 hg3 e2 b3 => ?_
  refine ⟨a.path, (b2.ext e2).rcell (rc_path _), b.path, b3.rcell (rc_path _), (Cmp_con _ _ ha hb _).mono ?_⟩
  rintro _ H3 ⟨rfl, rfl⟩
  exact ⟨_, rfl, rfl, e1.trans e2⟩
theorem grow_of {w w' : World} (hs : Same w w') (he : Ext w.heap w'.heap) : ∃ q os, w' = grow (w.drewN q) os := by
  refine ⟨w'.drawn - w.drawn, w'.heap.extract w.heap.size w'.heap.size, ?_⟩
  have hh : w.heap ++ w'.heap.extract w.heap.size w'.heap.size = w'.heap := by
    apply Array.ext_getElem?
    intro i
    rw [Array.getElem?_append]
    split
    · rename_i h
      exact (he.block i h).symm
    · rename_i h
      have := he.size
      rw [Array.getElem?_extract]
      rcases Nat.lt_or_ge i w'.heap.size with h2 | h2
      · rw [if_pos (by omega), show w.heap.size + (i - w.heap.size) = i by omega]
      · rw [if_neg (by omega), Array.getElem?_eq_none h2]
  have hd := hs.drawn
  unfold grow World.drewN
  cases w'
  simp only [World.mk.injEq]
  refine ⟨hh.symm, hs.tape, ?_, hs.os, hs.output⟩
  show _ = w.drawn + _
  simp only at hd
  omega
/-- a record whose path is short -/
abbrev SRec := { r : Rec // r.path.length ≤ 100000000 }
instance : Inhabited SRec := ⟨⟨⟨[], 0, false, 0⟩, by simp⟩⟩
def cfR (x y : SRec) : Int := cmpB x.1.path y.1.path
theorem cfR_swo : SWO (ltOf cfR) where
  irrefl x := by
    unfold ltOf cfR
    rw [cmpB_eq.2 rfl]
    rfl
  trans x y z h1 h2 := by
    unfold ltOf cfR at *
    simp only [decide_eq_true_eq] at *
    exact cmpB_trans h1 h2
  ntrans x y z h1 h2 := by
    unfold ltOf cfR at *
    simp only [decide_eq_false_iff_not] at *
    have e1 := cmpB_swap x.1.path y.1.path
    have e2 := cmpB_swap y.1.path z.1.path
    have e3 := cmpB_swap x.1.path z.1.path
    intro h
    rcases cmpB_three x.1.path y.1.path with h3 | h3 | h3
    · have := cmpB_eq.1 h3
      rw [← this] at h2
      exact h2 h
    · rcases cmpB_three y.1.path z.1.path with h4 | h4 | h4
      · have := cmpB_eq.1 h4
        rw [← this] at h
        exact h1 h
      · have := cmpB_trans (a := z.1.path) (b := y.1.path) (c := x.1.path) (by omega) (by omega)
        omega
      · omega
    · omega
def encR (x : SRec) : List Value := rcl x.1
theorem cmpLays (blk off size : Nat) (w : World) : CmpLays Tryd.prog 45 #[] encR 27 cfR blk off size w := fun m os dk _ x y => by
  have h := sorted1_con x.1 y.1 x.2 y.2 (sortWorldK encR 27 w blk off m dk os).heap _ rfl
  have e : (#[Value.agg (encR x).toArray, Value.agg (encR y).toArray] ++ #[] : Array Value) = ⟨[.agg (rc x.1), .agg (rc y.1)]⟩ := by
    rw [Array.append_empty]
    rfl
  rw [e]
  refine h.mono ?_
  rintro _ w' ⟨v, rfl, hs, rfl, hx⟩
  exact ⟨rfl, grow_of hs hx⟩
theorem isAgg35 (w : World) : (isAgg (Tryd.sortRec_ren.t 24)).run Tryd.prog w = .ok true w := run_isAgg (tab_ok.und 35 _ rfl) w
theorem sizeOf35 (w : World) : (Go.sizeOf (Tryd.sortRec_ren.t 24)).run Tryd.prog w = .ok 27 w := by
  obtain ⟨j, hj, hjs, _, _⟩ := tab_ok.info 35 _ rfl
  have h27 : j.size = 27 := hjs
  show (Go.sizeOf 35).run Tryd.prog w = .ok 27 w
  rw [← h27]
  exact V.run_sizeOf hj w
/-- slices.SortFunc at records, the comparing closure being the program's -/
theorem sort_calls (blk off cap : Nat) (d : Array SRec) (w : World) (hH : HoldsK encR 27 w blk off d) (hblk : blk < w.heap.size) (hsz : d.size < 4611686018427387904) :
    Calls Tryd.prog 44 #[.slice (some ⟨blk, off, none⟩) d.size cap, .func (.func 45) #[] #[]] w fun e w' =>
      e = .returned (.tuple #[]) ∧ ∃ d' n os, PermIn 0 d.size d d' ∧ SortedIn (ltOf cfR) 0 d.size d' ∧ w' = sortWorldK encR 27 w blk off n d' os :=
  AnyQ.slices_SortFunc Tryd.sortRec 27 isAgg35 sizeOf35 encR (fun _ => rfl) (fun x v hv => rc_one x.1 v (by simpa [rc, encR] using hv)) cfR cfR_swo 45 #[] blk off cap d w
    (fun args w => fns_ok 45 rfl args w) (cmpLays blk off d.size w) hH hblk hsz
end Go.Proofs.YtoemipeomingaaaDoor
