/- Slices that are made of parts; '==' of arrays of integers; one step of a proof a lemma. -/
import Derived.Test.YtoemipeomingaaaDoorVcgL
import Derived.ChangeKeysEq
namespace Go.V
open Go

/-! ### Steps -/
section
variable {H H' : Heap} {g n : Nat} {t : TypeId} {cs cs' : Array Value}
theorem st_new {F : Nat → Heap → Prop} (h : ∀ g H1, H.size ≤ g → Ext H H1 → Blk H1 g t cs → F g H1) : ∀ g H1, NewB H t cs g H1 → F g H1 :=
  fun g H1 hn => h g H1 hn.ge hn.ext hn.blk
theorem st_rd {F : Array Value → Prop} (h : Blk H g t cs) (hs : cs.size = n) (hF : F cs) : ∃ c, RdN H ⟨g, 0, none⟩ n c ∧ F c := ⟨cs, hs ▸ h.rd, hF⟩
theorem st_rdc {c : Prop} {F : Array Value → Prop} (h : Blk H g t cs) (hs : cs.size = n) (hF : F cs) : ∃ x, (c → RdN H ⟨g, 0, none⟩ n x) ∧ F x := ⟨cs, fun _ => hs ▸ h.rd, hF⟩
/-- a store of a whole block -/
theorem st_wr {cs2 : Array Value} {F : Heap → Prop} (h : Blk H g t cs) (hs : cs2.size = n) (hn : cs.size = n) (h1 : ∀ v ∈ cs2.toList, v.oneCell' = true) (hF : ∀ H1, H1 = upd H g t cs2 → Blk H1 g t cs2 → F H1) :
    ∃ H1, cs2.size = n ∧ wrN H ⟨g, 0, none⟩ cs2.toList 0 = some H1 ∧ F H1 :=
  ⟨_, hs, h.wrAll (by simp [hs, hn]) h1, hF _ (by cases cs2; rfl) (by have := (upd_same (H := H) (t := t) (cs := cs2) h.lt); cases cs2; exact this)⟩
end

/-! ### buildSlice -/
theorem foldl_zipIdx (cs : Array Value) (o : Nat) : ∀ (l : List Value) (k : Nat), (l.zipIdx k).foldl (fun cs (x : Value × Nat) => cs.setIfInBounds (o + x.2) x.1) cs = putAt cs (o + k) l := by
  intro l
  induction l generalizing cs with
  | nil => intro k; rfl
  | cons v r ih =>
    intro k
    rw [List.zipIdx_cons, List.foldl_cons, ih]
    rfl
theorem putAt_append : ∀ (a b : List Value) (cs : Array Value) (o : Nat), putAt cs o (a ++ b) = putAt (putAt cs o a) (o + a.length) b
  | [], b, cs, o => rfl
  | v :: r, b, cs, o => by
    show putAt (cs.setIfInBounds o v) (o + 1) (r ++ b) = putAt (putAt (cs.setIfInBounds o v) (o + 1) r) (o + (r.length + 1)) b
    rw [putAt_append r b]
    congr 1
    omega
/-- parts in their order, each of 'size' cells -/
theorem fill_in_order (size : Nat) : ∀ (vs : List Value) (k : Nat) (cs : Array Value), (∀ v ∈ vs, v.cells.size = size) → (k + vs.length) * size ≤ cs.size →
    Instr.fill (fun i => some (i * size, size)) cs ((vs.zipIdx k).map fun x => (x.2, x.1)) = some (putAt cs (k * size) (vs.flatMap fun v => v.cells.toList))
  | [], k, cs, _, _ => rfl
  | v :: r, k, cs, hs, hn => by
    rw [List.zipIdx_cons, List.map_cons]
    unfold Instr.fill
    have h1 := hs v List.mem_cons_self
    have hk : k * size + size ≤ cs.size := by
      have : (k + 1) * size ≤ (k + (v :: r).length) * size := Nat.mul_le_mul_right _ (by simp)
      rw [Nat.succ_mul] at this
      omega
    dsimp only
    rw [if_neg (by rw [h1]; simp; omega)]
    have e : (v.cells.zipIdx.foldl (fun cs (x : Value × Nat) => cs.setIfInBounds (k * size + x.2) x.1) cs) = putAt cs (k * size) v.cells.toList := by
      rw [← Array.foldl_toList, Array.toList_zipIdx, foldl_zipIdx]
      rfl
    have e2 := fill_in_order size r (k + 1) (putAt cs (k * size) v.cells.toList) (fun u hu => hs u (List.mem_cons_of_mem _ hu)) (by rw [putAt_size]; simp at hn; rw [Nat.add_assoc, Nat.add_comm 1]; exact hn)
    rw [List.flatMap_cons, putAt_append, Array.length_toList, h1, ← Nat.succ_mul, ← e2]
    congr 1
theorem sem_buildSlice {P : Program} {T : Tab} (hT : TabOk P T) {t e : Nat} {ie : Ty} (ht : descOf T t = .slice e) (hie : tget T e = some ie) (vs : List Value) (ps : List (Nat × Value)) (hps : ps = (vs.zipIdx 0).map fun x => (x.2, x.1)) (H : Heap) {n : Nat} (hn : vs.length = n)
    (hs : ∀ v ∈ vs, v.cells.size = ie.size) (hmax : n * ie.size ≤ 16777216) :
    SemH P (Instr.buildSlice t n ⟨ps⟩) H fun v H1 => ∃ g, v = .slice (some ⟨g, 0, none⟩) n n ∧ H.size ≤ g ∧ Ext H H1 ∧ Blk H1 g e ⟨vs.flatMap fun v => v.cells.toList⟩ := by
  intro w hw
  subst hps
  subst hn
  have hu := descOf_und hT ht (by simp)
  obtain ⟨j, hj, hjs, _, hz⟩ := hT.info e ie hie
  refine ⟨.slice (some ⟨w.heap.size, 0, none⟩) vs.length vs.length, { w with heap := w.heap.push (.cells ⟨vs.flatMap fun v => v.cells.toList⟩ e) }, ?_, ⟨rfl, rfl, rfl, Nat.le_refl _⟩, w.heap.size, rfl, by rw [hw]; exact Nat.le_refl _, by rw [hw]; exact Ext.push _ _, by simp [Blk]⟩
  have hfill : ∀ cs : Array Value, cs.size = vs.length * ie.size → Instr.fill (fun i => some (i * ie.size, ie.size)) cs ((vs.zipIdx 0).map fun x => (x.2, x.1)) = some ⟨vs.flatMap fun v => v.cells.toList⟩ := by
    intro cs hc
    rw [fill_in_order ie.size vs 0 cs hs (by rw [Nat.zero_add, hc]; exact Nat.le_refl _)]
    congr 1
    have hl : ∀ l : List Value, (∀ v ∈ l, v.cells.size = ie.size) → (l.flatMap fun v => v.cells.toList).length = l.length * ie.size := by
      intro l
      induction l with
      | nil => intro _; simp
      | cons x r ih =>
        intro h
        rw [List.flatMap_cons, List.length_append, ih (fun v hv => h v (List.mem_cons_of_mem _ hv)), Array.length_toList, h x List.mem_cons_self, List.length_cons, Nat.succ_mul]
        omega
    have := putAt_all (vs.flatMap fun v => v.cells.toList) [] cs (by rw [hc, hl vs hs]; simp) (fun j hj => by simp at hj)
    simpa using this
  simp only [Instr.buildSlice, Sem.run_bind, run_underlying hu, Result.andThen_ok, run_sizeOf hj, hjs]
  rw [if_neg (by omega)]
  by_cases h0 : vs.length * ie.size = 0
  · rw [if_pos h0]
    simp only [Sem.run_bind, Sem.run_pure, Result.andThen_ok]
    rw [hfill _ (by simp)]
    simp [newRow]
  · rw [if_neg h0]
    simp only [zeroValue, typeInfo, Sem.run_bind, run_program, Result.andThen_ok, hj, Sem.run_pure, hz]
    rw [hfill _ (by simp)]
    simp [newRow]

/-! ### '==' of two arrays of integers -/
theorem eqA_ints {P : Program} {T : Tab} (hT : TabOk P T) {t e n : Nat} {ie : Ty} {k : IntKind} (ht : descOf T t = .array n e) (hie : tget T e = some ie) (hk : ie.desc = .int k) (h1 : ie.size = 1)
    (hg : P.eqGuardType P.depth t = false) (xs ys : List Int) (hx : xs.length = n) (hy : ys.length = n) :
    EqA P t ⟨xs.map (.int k)⟩ ⟨ys.map (.int k)⟩ (xs == ys) := by
  have hu := descOf_und hT ht (by simp)
  have hue := hT.und e ie hie
  rw [hk] at hue
  obtain ⟨j, hj, hjs, _, _⟩ := hT.info e ie hie
  refine ⟨fun w => ?_, fun w => ?_⟩
  · simp [eqGuard, hg]
  · have key : ∀ (d : Nat) (w : World), (Op.equalIn (d + 2) t (.agg ⟨xs.map (.int k)⟩) (.agg ⟨ys.map (.int k)⟩)).run P w = .ok (xs == ys) w := by
      intro d w
      have step : ∀ (a b : Int) (w : World), (Op.equalIn (d + 1) e (.int k a) (.int k b)).run P w = .ok (a == b) w := fun a b w => run_equalIn_int w d e k k a b hue
      have loop : ∀ (us vs : List Int) (i : Nat), us = xs.drop i → vs = ys.drop i → i + us.length = n →
          (Op.eqItems (d + 1) e (P.cellsOf e) ⟨xs.map (.int k)⟩ ⟨ys.map (.int k)⟩ (List.range' i us.length)).run P w = .ok (us == vs) w := by
        intro us
        induction us with
        | nil =>
          intro vs i hu' hv' hi
          have : vs = [] := by rw [hv']; simp at hi ⊢; omega
          subst this
          simp [Op.eqItems]
        | cons a us ih =>
          intro vs i hu' hv' hi
          simp at hi
          have hilt : i < ys.length := by omega
          have hixs : i < xs.length := by omega
          cases vs with
          | nil =>
            have := congrArg List.length hv'
            simp at this
            omega
          | cons b vs =>
            rw [List.drop_eq_getElem_cons hixs] at hu'
            rw [List.drop_eq_getElem_cons hilt] at hv'
            injection hu' with ha hu2
            injection hv' with hb hv2
            have hce : P.cellsOf e = 1 := by simp [Program.cellsOf, hj, hjs, h1]
            have pa : (part e ⟨xs.map (.int k)⟩ (i * P.cellsOf e)).run P w = .ok (.int k a) w := run_part_one hT hie (by rw [hk]; rfl) (by rw [hce]; simp [hixs, ha]) w
            have pb : (part e ⟨ys.map (.int k)⟩ (i * P.cellsOf e)).run P w = .ok (.int k b) w := run_part_one hT hie (by rw [hk]; rfl) (by rw [hce]; simp [hilt, hb]) w
            rw [List.length_cons, List.range'_succ]
            simp only [Op.eqItems, Sem.run_bind, pa, pb, Result.andThen_ok, step]
            by_cases hab : a = b
            · subst hab
              simp only [beq_self_eq_true, Bool.not_true, Bool.false_eq_true, if_false]
              rw [ih vs (i + 1) hu2 hv2 (by omega)]
              simp
            · have : (a == b) = false := by simpa using hab
              simp [this]
      rw [run_equalIn_array w (d + 1) _ _ hu hj, List.range_eq_range']
      have := loop xs ys 0 (by simp) (by simp) (by simpa using hx)
      rw [hx] at this
      exact this
    exact key 9998 w
end Go.V
