/- A range over a map, over the heap alone: whatever order. -/
import Derived.Test.YtoemipeomingaaaDoorVcgR
import Derived.Laws.IdiomRangeMap
namespace Go.V
open Go

/-- block r holds an iterator over map b, which had n entries when the loop began; those of 'seen' have come up -/
def Iter (H : Heap) (r b n : Nat) (seen : Array Nat) : Prop := H[r]? = some (.mapIter (some b) n seen n)
section
variable {P : Program} {H H' : Heap} {b r n : Nat} {kv : KV} {seen : Array Nat}
theorem Iter.lt (h : Iter H r b n seen) : r < H.size := by
  rcases Nat.lt_or_ge r H.size with hl | hl
  · exact hl
  · unfold Iter at h; rw [Array.getElem?_eq_none hl] at h; cases h
theorem Iter.ext (h : Iter H r b n seen) (e : Ext H H') : Iter H' r b n seen := e.keep h
theorem Iter.grown (h : Iter H r b n seen) {row : Option Nat} (g : GrownH H H' row) (hne : some r ≠ row) : Iter H' r b n seen := by
  unfold Iter
  rw [g.block r h.lt hne]
  exact h
theorem Iter.upd (h : Iter H r b n seen) {g : Nat} {t : TypeId} {cs : Array Value} (hne : r ≠ g) : Iter (V.upd H g t cs) r b n seen := by
  unfold Iter V.upd at *
  rw [Array.getElem?_setIfInBounds_ne (Ne.symm hne)]
  exact h
theorem Iter.setO_other {c : Nat} (h : Iter H r b n seen) (hne : r ≠ c) {o : Obj} : Iter (setO H c o) r b n seen := by
  unfold Iter V.setO at *
  rw [Array.getElem?_setIfInBounds_ne (Ne.symm hne)]
  exact h
theorem Iter.set (h : Iter H r b n seen) (seen' : Array Nat) : Iter (setO H r (.mapIter (some b) n seen' n)) r b n seen' := by
  unfold Iter V.setO
  rw [Array.getElem?_setIfInBounds_self_of_lt h.lt]
theorem sem_range {t kt et : TypeId} (ht : P.underlying t = some (.map kt et)) (h : Mp H b kv) :
    SemH P (Instr.range t (.map (some b))) H fun v H1 => ∃ r, v = .pointer (some ⟨r, 0, none⟩) ∧ H.size ≤ r ∧ Ext H H1 ∧ Iter H1 r b kv.length #[] := by
  intro w hw
  subst hw
  have hb : w.heap[b]? = some (.map ⟨ents 0 kv⟩ kv.length) := h
  refine ⟨_, _, run_range_map w t kt et b ⟨ents 0 kv⟩ kv.length ht hb, ⟨rfl, rfl, rfl, Nat.le_refl _⟩, w.heap.size, rfl, Nat.le_refl _, Ext.push _ _, ?_⟩
  show (w.heap.push _)[w.heap.size]? = _
  simp
theorem ents_born {x : MapEntry} (hx : x ∈ ents 0 kv) : ∃ i p, kv[i]? = some p ∧ x = ent i p := by
  obtain ⟨i, hi⟩ := List.getElem?_of_mem hx
  rw [ents_get] at hi
  cases hk : kv[i]? with
  | none => rw [hk] at hi; cases hi
  | some p => rw [hk] at hi; injection hi with hi; exact ⟨i, p, hk, by rw [← hi, Nat.zero_add]⟩
theorem idx_lt {i : Nat} {p : List UInt8 × Value} (h : kv[i]? = some p) : i < kv.length := by
  rcases Nat.lt_or_ge i kv.length with h1 | h1
  · exact h1
  · rw [List.getElem?_eq_none h1] at h; cases h
theorem sem_next {ty : TypeId} (hi : Iter H r b kv.length seen) (h : Mp H b kv) :
    SemH P (Instr.next (.pointer (some ⟨r, 0, none⟩)) false ty) H fun v H1 =>
      (v = .tuple ⟨[.bool false]⟩ ∧ H1 = H ∧ ∀ i, i < kv.length → seen.contains i = true) ∨
      (∃ i p, kv[i]? = some p ∧ seen.contains i = false ∧ v = .tuple ⟨[.bool true, .string ⟨⟨p.1⟩⟩, p.2]⟩ ∧ H1 = setO H r (.mapIter (some b) kv.length (seen.push i) kv.length)) := by
  intro w hw
  subst hw
  have hb : w.heap[b]? = some (.map ⟨ents 0 kv⟩ kv.length) := h
  have hr : w.heap[r]? = some (.mapIter (some b) kv.length seen kv.length) := hi
  have hold : ∀ x ∈ (⟨ents 0 kv⟩ : Array MapEntry).toList, x.born < kv.length := fun x hx => by
    obtain ⟨i, p, hk, rfl⟩ := ents_born hx
    exact idx_lt hk
  simp only [Instr.next, Sem.run_bind, run_getO hr trivial, run_getO hb trivial, Result.andThen_ok, next_test_false seen ⟨ents 0 kv⟩ kv.length kv.length hold (Nat.le_refl _), Bool.false_eq_true, if_false]
  have hin : ∀ x ∈ (Array.filter (fun e => !seen.contains e.born) ⟨ents 0 kv⟩).toList, x ∈ ents 0 kv ∧ seen.contains x.born = false := fun x hx => by
    simpa using hx
  have hall : (Array.filter (fun e => !seen.contains e.born) ⟨ents 0 kv⟩) = #[] → ∀ i, i < kv.length → seen.contains i = true := fun he i hi => by
    have hg : (ents 0 kv)[i]? = some (ent i kv[i]) := by rw [ents_get, List.getElem?_eq_getElem hi, Nat.zero_add]; rfl
    have hm := List.mem_of_getElem? hg
    rw [Array.filter_eq_empty_iff] at he
    have := he (ent i kv[i]) (by simpa using hm)
    simpa [ent] using this
  generalize Array.filter (fun e => !seen.contains e.born) ⟨ents 0 kv⟩ = L at hin hall ⊢
  have e1 : L.filter (fun x => decide (x.born < kv.length)) = L := Array.filter_eq_self.2 (fun x hx => by simpa using hold x (hin x (by simpa using hx)).1)
  have e2 : L.filter (fun x => decide (x.born ≥ kv.length)) = #[] := by
    rw [Array.filter_eq_empty_iff]
    intro x hx
    have := hold x (hin x (by simpa using hx)).1
    simp
    omega
  simp only [e1, e2, Array.append_empty]
  by_cases h0 : L.size = 0
  · have : L = #[] := Array.eq_empty_of_size_eq_zero h0
    subst this
    refine ⟨.tuple ⟨[.bool false]⟩, w, ?_, Same.refl _, .inl ⟨rfl, rfl, hall rfl⟩⟩
    simp [choose, Sem.run, Question.forced]
  · have hne : L.isEmpty = false := by simp [Array.isEmpty, h0]
    simp only [hne, Bool.false_eq_true, if_false, Array.empty_append, Array.size_map]
    have hch : ∃ (j : Nat) (w1 : World), j < L.size ∧ w1.heap = w.heap ∧ Same w w1 ∧ (choose (Question.mapNext L.size)).run P w = .ok j w1 := by
      by_cases hf : L.size ≤ 1
      · exact ⟨0, w, by omega, rfl, Same.refl _, by simp [choose, Sem.run, Question.forced, hf]⟩
      · exact ⟨_, w.drew, Nat.mod_lt _ (by omega), rfl, ⟨rfl, rfl, rfl, Nat.le_succ _⟩, by
          simp only [choose, Sem.run, Question.forced, decide_eq_true_eq, hf, if_false, Question.cut]
          rfl⟩
    obtain ⟨j, w1, hj, hh, hs, hrun⟩ := hch
    have hmem := hin L[j] (by simp)
    obtain ⟨i, p, hk, he⟩ := ents_born hmem.1
    have hr1 : w1.heap[r]? = some (.mapIter (some b) kv.length seen kv.length) := by rw [hh]; exact hr
    refine ⟨.tuple ⟨[.bool true, .string ⟨⟨p.1⟩⟩, p.2]⟩, { w1 with heap := setO w1.heap r (.mapIter (some b) kv.length (seen.push i) kv.length) }, ?_, ⟨hs.os, hs.tape, hs.output, hs.drawn⟩, .inr ⟨i, p, hk, ?_, rfl, ?_⟩⟩
    · simp only [hrun, Result.andThen_ok, Array.getElem?_map, Array.getElem?_eq_getElem hj, Option.map_some, Sem.run_bind, he, ent, run_setO hr1 trivial]
      rfl
    · rw [he] at hmem
      exact hmem.2
    · show setO w1.heap r _ = _
      rw [hh]
theorem heap_entry {i : Nat} {p : List UInt8 × Value} (hi : Iter H r b kv.length (seen.push i)) (h : Mp H b kv) (hk : kv[i]? = some p) :
    HeapV P (Instr.entry (.pointer (some ⟨r, 0, none⟩))) H (.tuple ⟨[.string ⟨⟨p.1⟩⟩, p.2]⟩) := by
  intro w hw
  have hb : w.heap[b]? = some (.map ⟨ents 0 kv⟩ kv.length) := hw.keep h
  have hr : w.heap[r]? = some (.mapIter (some b) kv.length (seen.push i) kv.length) := hw.keep hi
  have hf : (⟨ents 0 kv⟩ : Array MapEntry).find? (·.born == i) = some (ent i p) := by
    have key : ∀ (kv : KV) (n j : Nat) (p : List UInt8 × Value), kv[j]? = some p → (ents n kv).find? (·.born == n + j) = some (ent (n + j) p) := by
      intro kv
      induction kv with
      | nil => intro n j p h; simp at h
      | cons q l ih =>
        intro n j p h
        rw [ents, List.find?_cons]
        cases j with
        | zero =>
          have : q = p := by simpa using h
          subst this
          simp [ent]
        | succ j =>
          have : ((ent n q).born == n + (j + 1)) = false := by simp [ent]
          rw [this]
          have := ih (n + 1) j p (by simpa using h)
          rw [show n + 1 + j = n + (j + 1) by omega] at this
          exact this
    have := key kv 0 i p hk
    rw [Nat.zero_add] at this
    rw [← this, ← Array.find?_toList]
  simp only [Instr.entry, Sem.run_bind, run_getO hr trivial, run_getO hb trivial, Result.andThen_ok, Array.back?_push, bne_self_eq_false, Bool.false_eq_true, if_false, hf]
  rfl
/-- a loop over a map, in whatever order: what holds of the entries that have come up -/
theorem seen_push {i : Nat} {p : List UInt8 × Value} (_hk : kv[i]? = some p) {sn : List Nat} (hs : seen = ⟨sn⟩) : seen.push i = ⟨sn ++ [i]⟩ := by
  subst hs
  simp
end
end Go.V
