/- Maps whose keys are texts, over the heap alone. -/
import Derived.Test.YtoemipeomingaaaDoorVcgQ
namespace Go.V
open Go

abbrev KV := List (List UInt8 × Value)
def ent (i : Nat) (p : List UInt8 × Value) : MapEntry := ⟨.string ⟨⟨p.1⟩⟩, p.2, i⟩
def ents : Nat → KV → List MapEntry
  | _, [] => []
  | i, p :: r => ent i p :: ents (i + 1) r
/-- an object that is no row of cells -/
def notRow : Obj → Prop
  | .cells _ _ _ => False
  | _ => True
/-- block b holds the map kv, its entries in the order in which they were laid -/
def Mp (H : Heap) (b : Nat) (kv : KV) : Prop := H[b]? = some (.map ⟨ents 0 kv⟩ kv.length)
def setO (H : Heap) (b : Nat) (o : Obj) : Heap := H.setIfInBounds b o
def idxKV : KV → List UInt8 → Option (Nat × Value)
  | [], _ => none
  | p :: r, k => if k = p.1 then some (0, p.2) else (idxKV r k).map fun x => (x.1 + 1, x.2)
def getKV (kv : KV) (k : List UInt8) : Option Value := (idxKV kv k).map (·.2)
def putKV : KV → List UInt8 → Value → KV
  | [], k, v => [(k, v)]
  | p :: r, k, v => if k = p.1 then (k, v) :: r else p :: putKV r k v

theorem ents_len : ∀ (i : Nat) (kv : KV), (ents i kv).length = kv.length
  | _, [] => rfl
  | i, p :: r => by rw [ents, List.length_cons, List.length_cons, ents_len]
theorem ents_get : ∀ (i : Nat) (kv : KV) (j : Nat), (ents i kv)[j]? = kv[j]?.map (ent (i + j))
  | _, [], j => by simp [ents]
  | i, p :: r, 0 => rfl
  | i, p :: r, j + 1 => by
    rw [ents, List.getElem?_cons_succ, List.getElem?_cons_succ, ents_get]
    congr 2
    omega
theorem ents_append : ∀ (i : Nat) (a b : KV), ents i (a ++ b) = ents i a ++ ents (i + a.length) b
  | _, [], b => rfl
  | i, p :: r, b => by
    rw [List.cons_append, ents, ents, ents_append, List.cons_append, List.length_cons, Nat.add_assoc, Nat.add_comm 1]
theorem beq_bytes (a b : List UInt8) : ((⟨⟨a⟩⟩ : ByteArray) == ⟨⟨b⟩⟩) = decide (a = b) := by
  have e : ((⟨⟨a⟩⟩ : ByteArray) == ⟨⟨b⟩⟩) = ((⟨a⟩ : Array UInt8) == ⟨b⟩) := rfl
  rw [e, Bool.eq_iff_iff, beq_iff_eq, decide_eq_true_eq]
  constructor
  · intro h; injection h
  · intro h; rw [h]
theorem findNow_ents (k : List UInt8) : ∀ (kv : KV) (i n : Nat), Instr.findNow .string (.string ⟨⟨k⟩⟩) (ents n kv) i = some ((idxKV kv k).map fun x => (i + x.1, x.2))
  | [], _, _ => rfl
  | p :: r, i, n => by
    rw [ents]
    unfold Instr.findNow
    simp only [ent, Instr.sameNow, beq_bytes]
    by_cases h : k = p.1
    · rw [decide_eq_true h]
      simp [idxKV, h]
    · rw [decide_eq_false h]
      dsimp only
      rw [findNow_ents k r (i + 1) (n + 1)]
      simp only [idxKV, if_neg h, Option.map_map]
      congr 1
      cases idxKV r k with
      | none => rfl
      | some x => simp [Nat.add_assoc, Nat.add_comm 1]
theorem putKV_idx : ∀ (kv : KV) (k : List UInt8) (v : Value) (j : Nat) (u : Value), idxKV kv k = some (j, u) → putKV kv k v = kv.set j (k, v) ∧ kv[j]?.map (·.1) = some k
  | [], k, v, j, u, h => by cases h
  | p :: r, k, v, j, u, h => by
    unfold idxKV at h
    split at h
    · rename_i hk
      injection h with h
      injection h with h1 h2
      subst h1
      exact ⟨by rw [putKV, if_pos hk]; rfl, by rw [hk]; rfl⟩
    · rename_i hk
      cases hr : idxKV r k with
      | none => rw [hr] at h; cases h
      | some x =>
        rw [hr] at h
        injection h with h
        injection h with h1 h2
        subst h1
        obtain ⟨h3, h4⟩ := putKV_idx r k v x.1 x.2 hr
        exact ⟨by rw [putKV, if_neg hk, h3]; rfl, h4⟩
theorem putKV_none : ∀ (kv : KV) (k : List UInt8) (v : Value), idxKV kv k = none → putKV kv k v = kv ++ [(k, v)]
  | [], k, v, _ => rfl
  | p :: r, k, v, h => by
    unfold idxKV at h
    split at h
    · cases h
    · rename_i hk
      rw [putKV, if_neg hk, putKV_none r k v (by cases hr : idxKV r k with
        | none => rfl
        | some x => rw [hr] at h; cases h)]
      rfl
theorem ents_set : ∀ (i : Nat) (kv : KV) (j : Nat) (p : List UInt8 × Value), j < kv.length → ents i (kv.set j p) = (ents i kv).set j (ent (i + j) p)
  | _, [], j, p, h => by simp at h
  | i, q :: r, 0, p, _ => rfl
  | i, q :: r, j + 1, p, h => by
    rw [List.set_cons_succ, ents, ents, List.set_cons_succ, ents_set _ _ _ _ (by simpa using h)]
    congr 3
    omega

section
variable {P : Program} {T : Tab} {H H' : Heap} {b : Nat} {kv : KV}
theorem Mp.lt (h : Mp H b kv) : b < H.size := by
  rcases Nat.lt_or_ge b H.size with hl | hl
  · exact hl
  · unfold Mp at h; rw [Array.getElem?_eq_none hl] at h; cases h
theorem Mp.ext (h : Mp H b kv) (e : Ext H H') : Mp H' b kv := e.keep h
theorem Mp.upd (h : Mp H b kv) {g : Nat} {t : TypeId} {cs : Array Value} (hne : b ≠ g) : Mp (V.upd H g t cs) b kv := by
  unfold Mp V.upd at *
  rw [Array.getElem?_setIfInBounds_ne (Ne.symm hne)]
  exact h
theorem Mp.grown (h : Mp H b kv) {row : Option Nat} (g : GrownH H H' row) (hne : some b ≠ row) : Mp H' b kv := by
  unfold Mp
  rw [g.block b h.lt hne]
  exact h
theorem setO_size {o : Obj} : (setO H b o).size = H.size := by simp [setO]
theorem Ext.setO {H0 : Heap} (h : Ext H0 H) (hb : H0.size ≤ b) {o : Obj} : Ext H0 (setO H b o) :=
  ⟨by rw [setO_size]; exact h.size, fun k hk => by
    unfold V.setO
    rw [Array.getElem?_setIfInBounds_ne (by omega)]
    exact h.block k hk⟩
theorem Blk.setO {g : Nat} {t : TypeId} {cs : Array Value} (h : Blk H g t cs) (hne : g ≠ b) {o : Obj} : Blk (setO H b o) g t cs := by
  unfold Blk V.setO at *
  rw [Array.getElem?_setIfInBounds_ne (Ne.symm hne)]
  exact h
theorem Mp.setO_other {c : Nat} (h : Mp H b kv) (hne : b ≠ c) {o : Obj} : Mp (setO H c o) b kv := by
  unfold Mp V.setO at *
  rw [Array.getElem?_setIfInBounds_ne (Ne.symm hne)]
  exact h
theorem GrownH.setO {o : Obj} : GrownH H (setO H b o) (some b) :=
  ⟨by rw [setO_size]; exact Nat.le_refl _, fun k _ hne => by
    unfold V.setO
    rw [Array.getElem?_setIfInBounds_ne (fun e => hne (by rw [e]))]⟩
theorem run_getO {w : World} {o : Obj} (h : w.heap[b]? = some o) (hn : notRow o) : (getObj b).run P w = .ok o w := by
  cases o <;> first | exact hn.elim | simp [getObj, Sem.run, h]
theorem run_setO {w : World} {o o' : Obj} (h : w.heap[b]? = some o) (hn : notRow o) : (setObj b o').run P w = .ok () { w with heap := setO w.heap b o' } := by
  cases o <;> first | exact hn.elim | simp [setObj, Sem.run, h, setO]

theorem sem_makeMap (t : TypeId) : SemH P (Instr.makeMap t none) H fun r H1 => ∃ b, r = .map (some b) ∧ H.size ≤ b ∧ Ext H H1 ∧ Mp H1 b [] := by
  intro w hw
  subst hw
  exact ⟨.map (some w.heap.size), { w with heap := w.heap.push (.map #[] 0) }, rfl, ⟨rfl, rfl, rfl, Nat.le_refl _⟩, w.heap.size, rfl, Nat.le_refl _, Ext.push _ _, by simp [Mp, ents]⟩
theorem run_findKey {k : List UInt8} {kt : TypeId} (hk : P.underlying kt = some .string) (w : World) : (Instr.findKey kt (.string ⟨⟨k⟩⟩) (ents 0 kv)).run P w = .ok (idxKV kv k) w := by
  simp only [Instr.findKey, Sem.run_bind, run_underlying hk, Result.andThen_ok, findNow_ents]
  congr 1
  cases idxKV kv k with
  | none => rfl
  | some x => simp
theorem run_checkKey {k : List UInt8} {kt : TypeId} (hk : P.underlying kt = some .string) (e : Bool) (w : World) : (Instr.checkKey e 10000 kt (.string ⟨⟨k⟩⟩)).run P w = .ok () w := by
  have key : ∀ n, (Instr.checkKey e (n + 1) kt (.string ⟨⟨k⟩⟩)).run P w = .ok () w := fun n => by
    simp only [Instr.checkKey, Sem.run_bind, run_underlying hk, Result.andThen_ok]
    rfl
  exact key 9999
theorem heap_lookup {t kt et : TypeId} (ht : P.underlying t = some (.map kt et)) (hk : P.underlying kt = some .string) (h : Mp H b kv) (k : List UInt8) (ok : Bool) {z : Value} (hz : ∀ w, (zeroValue et).run P w = .ok z w) :
    HeapV P (Instr.lookup t (.map (some b)) (.string ⟨⟨k⟩⟩) ok) H (if ok then .tuple ⟨[(getKV kv k).getD z, .bool (getKV kv k).isSome]⟩ else (getKV kv k).getD z) := by
  intro w hw
  have hb : w.heap[b]? = some (.map ⟨ents 0 kv⟩ kv.length) := hw.keep h
  simp only [Instr.lookup, Sem.run_bind, run_underlying ht, Result.andThen_ok, run_getO hb trivial, run_checkKey hk, run_findKey hk, Sem.run_pure]
  unfold getKV
  cases idxKV kv k with
  | none =>
    simp only [Sem.run_bind, hz, Result.andThen_ok, Sem.run_pure]
    cases ok <;> rfl
  | some x =>
    cases ok <;> rfl
theorem heap_lookup_nil {t kt et : TypeId} (ht : P.underlying t = some (.map kt et)) (hk : P.underlying kt = some .string) (k : List UInt8) (ok : Bool) {z : Value} (hz : ∀ w, (zeroValue et).run P w = .ok z w) :
    HeapV P (Instr.lookup t (.map none) (.string ⟨⟨k⟩⟩) ok) H (if ok then .tuple ⟨[z, .bool false]⟩ else z) := by
  intro w _
  have e : ∀ w, (Instr.findKey kt (.string ⟨⟨k⟩⟩) []).run P w = .ok none w := fun w => run_findKey (kv := []) hk w
  simp only [Instr.lookup, Sem.run_bind, run_underlying ht, Result.andThen_ok, Sem.run_pure, run_checkKey hk, e, hz]
  first | done | (cases ok <;> rfl)
theorem sem_mapUpdate {t kt et : TypeId} (ht : P.underlying t = some (.map kt et)) (hk : P.underlying kt = some .string) (h : Mp H b kv) (k : List UInt8) (v : Value) :
    SemH P (Instr.mapUpdate t (.map (some b)) (.string ⟨⟨k⟩⟩) v) H fun _ H1 => H1 = setO H b (.map ⟨ents 0 (putKV kv k v)⟩ (putKV kv k v).length) ∧ Mp H1 b (putKV kv k v) := by
  intro w hw
  subst hw
  have hb : w.heap[b]? = some (.map ⟨ents 0 kv⟩ kv.length) := h
  have fin : ∀ o, Mp (setO w.heap b o) b (putKV kv k v) ↔ o = .map ⟨ents 0 (putKV kv k v)⟩ (putKV kv k v).length := fun o => by
    unfold Mp setO
    rw [Array.getElem?_setIfInBounds_self_of_lt h.lt]
    simp
  refine ⟨(), { w with heap := setO w.heap b (.map ⟨ents 0 (putKV kv k v)⟩ (putKV kv k v).length) }, ?_, ⟨rfl, rfl, rfl, Nat.le_refl _⟩, rfl, (fin _).2 rfl⟩
  simp only [Instr.mapUpdate, Sem.run_bind, run_underlying ht, Result.andThen_ok, run_getO hb trivial, run_checkKey hk, run_findKey hk]
  cases hi : idxKV kv k with
  | none =>
    dsimp only
    rw [run_setO hb trivial, putKV_none kv k v hi]
    congr 3
    rw [ents_append, List.length_append, Nat.zero_add]
    simp [ents, ent]
  | some x =>
    dsimp only
    obtain ⟨h1, h2⟩ := putKV_idx kv k v x.1 x.2 hi
    have hx : x.1 < kv.length := by
      rcases Nat.lt_or_ge x.1 kv.length with hl | hl
      · exact hl
      · rw [List.getElem?_eq_none hl] at h2; cases h2
    have hg : (ents 0 kv)[x.1]? = kv[x.1]?.map (ent (0 + x.1)) := ents_get 0 kv x.1
    rw [List.getElem?_eq_getElem hx] at h2 hg
    injection h2 with h2
    have hkey : (((⟨ents 0 kv⟩ : Array MapEntry)[x.1]?).map (·.key)).getD (.string ⟨⟨k⟩⟩) = .string ⟨⟨k⟩⟩ := by
      simp only [List.getElem?_toArray, hg, Option.map_some, Option.getD_some, ent, h2]
    have hstay : (Instr.keyThatStays (.string ⟨⟨k⟩⟩) (.string ⟨⟨k⟩⟩)).run P w = .ok (.string ⟨⟨k⟩⟩) w := by
      have : Instr.sameBits 10000 (.string ⟨⟨k⟩⟩) (.string ⟨⟨k⟩⟩) = true := by
        show Instr.sameBits (9999 + 1) _ _ = true
        simp only [Instr.sameBits, beq_bytes, decide_true]
      simp [Instr.keyThatStays, this]
    rw [hkey]
    simp only [Sem.run_bind, hstay, Result.andThen_ok]
    rw [run_setO hb trivial, h1]
    congr 3
    congr 1
    · apply Array.ext'
      rw [ents_set _ _ _ _ hx]
      apply List.ext_getElem?
      intro j
      rw [Array.toList_modify, List.getElem?_set]
      by_cases hj : x.1 = j
      · subst hj
        have hle : x.1 < (ents 0 kv).length := by rw [ents_len]; exact hx
        rw [if_pos rfl, if_pos hle, List.getElem?_modify_eq, hg]
        simp [ent]
      · rw [if_neg hj]
        exact List.getElem?_modify_ne _ _ hj
    · simp
end
end Go.V
