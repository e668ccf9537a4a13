/- slices.SortFunc at records, over the heap alone. -/
import Derived.Test.YtoemipeomingaaaDoorQCmp
namespace Go.Proofs.YtoemipeomingaaaDoor
open Go Go.V Go.Sort

def subR (l : List Rec) (h : ∀ r ∈ l, r.path.length ≤ 100000000) : List SRec := l.attach.map fun x => ⟨x.1, h x.1 x.2⟩
theorem subR_val (l : List Rec) (h : ∀ r ∈ l, r.path.length ≤ 100000000) : (subR l h).map (·.1) = l := by
  unfold subR
  rw [List.map_map]
  exact List.attach_map_subtype_val l
theorem flatK_recs (l : List SRec) : flatK encR 27 ⟨l⟩ = ⟨recs (l.map (·.1))⟩ := by
  apply Array.ext_getElem?
  intro t
  have hsz : (recs (l.map (·.1))).length = l.length * 27 := by rw [recs_len, List.length_map]
  rcases Nat.lt_or_ge t (l.length * 27) with h | h
  · have hk : t / 27 < l.length := by omega
    have hi : t % 27 < 27 := Nat.mod_lt _ (by omega)
    have h1 : (flatK encR 27 ⟨l⟩)[t]? = some ((encR (l[t / 27]))[t % 27]!) := by
      have hs : t < (flatK encR 27 ⟨l⟩).size := by rw [size_flatK]; exact h
      rw [Array.getElem?_eq_getElem hs]
      have := get_flatK encR 27 ⟨l⟩ t h
      rw [getElem!_pos _ t hs] at this
      rw [this]
      congr 2
      show encR ((⟨l⟩ : Array SRec)[t / 27]!) = _
      rw [getElem!_pos _ _ (by simpa using hk)]
      rfl
    rw [h1]
    have h2 := recs_get (l.map (·.1)) (t / 27) (t % 27) (l[t / 27]).1 (by rw [List.getElem?_map, List.getElem?_eq_getElem hk]; rfl) hi
    rw [show t / 27 * 27 + t % 27 = t by omega] at h2
    rw [List.getElem?_toArray, h2]
    have hl27 : (encR l[t / 27]).length = 27 := rfl
    rw [getElem!_pos _ _ (by omega)]
    rw [show rc (l[t / 27]).1 = ⟨rcl (l[t / 27]).1⟩ from rfl, List.getElem?_toArray]
    rw [List.getElem?_eq_getElem (by show t % 27 < (encR l[t / 27]).length; omega)]
    rfl
  · rw [Array.getElem?_eq_none (by rw [size_flatK]; exact h)]
    rw [List.getElem?_toArray, List.getElem?_eq_none (by rw [hsz]; exact h)]
theorem SortFunc_con {B : Nat} {H0 : Heap} {g n cap : Nat} (l : List Rec) (hl : ∀ r ∈ l, r.path.length ≤ 100000000) (own : OwnH H0 B 35 27 (.slice (some ⟨g, 0, none⟩) n cap) n (recs l)) (hn : n ≤ 1000000) :
    CallsH Tryd.prog 44 ⟨[.slice (some ⟨g, 0, none⟩) n cap, .func (.func 45) ⟨[]⟩ ⟨[]⟩]⟩ H0 fun r H1 => r = .tuple ⟨[]⟩ ∧ ∃ l' : List Rec, l'.Perm l ∧ l'.Pairwise (fun a b => 0 ≤ cmpB b.path a.path) ∧
      OwnH H1 B 35 27 (.slice (some ⟨g, 0, none⟩) n cap) n (recs l') ∧ GrownH H0 H1 (some g) := by
  intro w hw
  subst hw
  have hlen : l.length = n := by have := own.1; rw [recs_len] at this; omega
  obtain ⟨g', cap', cur, he, hB, hblk, hnc, hcm, hcs, htk⟩ : ∃ g' cap' cur, (Value.slice (some ⟨g, 0, none⟩) n cap) = .slice (some ⟨g', 0, none⟩) n cap' ∧ B ≤ g' ∧ Blk w.heap g' 35 cur ∧ n ≤ cap' ∧ cap' ≤ maxLen ∧ cur.size = cap' * 27 ∧ cur.toList.take (n * 27) = recs l := by
    rcases own.2 with ⟨h, _⟩ | h
    · cases h
    · exact h
  injection he with he1 _ he3
  injection he1 with he1
  injection he1 with he1
  subst he1
  subst he3
  have hsz : (⟨subR l hl⟩ : Array SRec).size = n := by simp [subR, hlen]
  have hH : HoldsK encR 27 w g 0 (⟨subR l hl⟩ : Array SRec) := by
    unfold HoldsK
    rw [flatK_recs, subR_val]
    intro j hj
    have hj' : j < n * 27 := by
      have : j < (recs l).length := by simpa using hj
      rw [recs_len, hlen] at this
      exact this
    refine ⟨?_, ?_⟩
    · rw [cellAt_eq, Nat.zero_add, hblk.cell]
      have h1 : (recs l)[j]? = cur[j]? := by
        rw [← htk, List.getElem?_take, if_pos hj']
        simp
      rw [← h1]
      have hjl : j < (recs l).length := by rw [recs_len, hlen]; exact hj'
      rw [List.getElem?_eq_getElem hjl]
      show _ = some ((⟨recs l⟩ : Array Value)[j]!)
      rw [getElem!_pos _ _ (by simpa using hjl)]
      rfl
    · unfold World.frozen?
      unfold Blk at hblk
      simp [hblk]
  have hc := sort_calls g 0 cap (⟨subR l hl⟩ : Array SRec) w hH hblk.lt (by omega)
  rw [hsz] at hc
  refine hc.mono ?_
  rintro e w' ⟨rfl, d', q, os, hp, hs, rfl⟩
  have hd : d'.size = n := by rw [hp.1, hsz]
  have hrl : (recs (d'.toList.map (·.1))).length = n * 27 := by rw [recs_len, List.length_map, Array.length_toList, hd]
  have hfl : flatK encR 27 d' = ⟨recs (d'.toList.map (·.1))⟩ := flatK_recs d'.toList
  have hg : (sortWorldK encR 27 w g 0 q d' os).heap[g]? = some (.cells (putCells id 0 (flatK encR 27 d') cur) 35 (0, 0)) := by
    unfold sortWorldK grow putRowK putRow mapBlock
    show ((Array.modify _ g _) ++ os)[g]? = _
    have hlt := hblk.lt
    rw [Array.getElem?_append_left (by simpa using hlt), Array.getElem?_modify, if_pos rfl]
    show Option.map _ w.heap[g]? = _
    unfold Blk at hblk
    rw [hblk]
    rfl
  have hother : ∀ k, k < w.heap.size → some k ≠ some g → (sortWorldK encR 27 w g 0 q d' os).heap[k]? = w.heap[k]? := by
    intro k hk hne
    unfold sortWorldK grow putRowK putRow mapBlock
    show ((Array.modify _ g _) ++ os)[k]? = _
    rw [Array.getElem?_append_left (by simpa using hk), Array.getElem?_modify, if_neg (fun e => hne (by rw [e]))]
    rfl
  have hsize : w.heap.size ≤ (sortWorldK encR 27 w g 0 q d' os).heap.size := by
    unfold sortWorldK grow putRowK putRow mapBlock
    show _ ≤ ((Array.modify _ g _) ++ os).size
    simp
  refine ⟨.tuple ⟨[]⟩, rfl, ⟨rfl, rfl, rfl, Nat.le_add_right _ _⟩, rfl, d'.toList.map (·.1), ?_, ?_, ⟨hrl, .inr ⟨g, cap, putCells id 0 (flatK encR 27 d') cur, rfl, hB, hg, hnc, hcm, ?_, ?_⟩⟩, hsize, hother⟩
  · have h1 := hp.2.2
    have e1 : (d'.extract 0 n).toList = d'.toList := by rw [← hd]; simp
    have e2 : ((⟨subR l hl⟩ : Array SRec).extract 0 n).toList = subR l hl := by
      have : (⟨subR l hl⟩ : Array SRec).extract 0 n = ⟨subR l hl⟩ := by rw [← hsz]; simp
      rw [this]
    rw [e1, e2] at h1
    have h2 := h1.map (·.1)
    rw [subR_val] at h2
    exact h2
  · rw [List.pairwise_iff_getElem]
    intro i j hi hj hij
    have hi' : i < d'.size := by simpa using hi
    have hj' : j < d'.size := by simpa using hj
    have h1 := hs i j (Nat.zero_le _) hij (by omega)
    rw [getElem!_pos _ i hi', getElem!_pos _ j hj'] at h1
    unfold ltOf cfR at h1
    have h2 := of_decide_eq_false h1
    simp only [List.getElem_map, Array.getElem_toList]
    omega
  · unfold putCells
    simp [hcs]
  · rw [hfl]
    apply List.ext_getElem?
    intro t
    rw [List.getElem?_take]
    split
    · rename_i ht
      have htc : t < cur.size := by
        have : n * 27 ≤ cap * 27 := Nat.mul_le_mul_right _ hnc
        omega
      have hts : t < (recs (d'.toList.map (·.1))).length := by omega
      unfold putCells
      rw [Array.toList_mapIdx, List.getElem?_mapIdx, List.getElem?_eq_getElem (by simpa using htc)]
      simp only [Option.map_some]
      rw [if_pos ⟨Nat.zero_le _, by simpa using hts⟩, List.getElem?_eq_getElem hts, Nat.sub_zero, getElem!_pos _ _ (by simpa using hts)]
      rfl
    · rename_i ht
      rw [List.getElem?_eq_none (by omega)]
end Go.Proofs.YtoemipeomingaaaDoor
