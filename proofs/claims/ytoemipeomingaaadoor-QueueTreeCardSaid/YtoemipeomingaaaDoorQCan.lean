/- Contracts: no, can, aim. -/
import Derived.Test.YtoemipeomingaaaDoorQBase
namespace Go.Proofs.YtoemipeomingaaaDoor
open Go Go.V

def r0 : Rec := ⟨[], 0, false, 0⟩
theorem zero35 (w : World) : (zeroValue 35).run Tryd.prog w = .ok (.agg (rc r0)) w := by
  obtain ⟨j, hj, _, _, hz⟩ := tab_ok.info 35 _ rfl
  simp only [zeroValue, typeInfo, Sem.run_bind, run_program, Result.andThen_ok, hj, Sem.run_pure, hz]
  rfl
theorem lookR_tuple {H : Heap} {m : RM} {b : Nat} (h : Mp H b (kvR m)) (k : Bs) :
    HeapV Tryd.prog (Instr.lookup 47 (.map (some b)) (sv k) true) H (.tuple ⟨[.agg (rc ((lookR m k).getD r0)), .bool (lookR m k).isSome]⟩) := by
  have := heap_lookup (P := Tryd.prog) (t := 47) u47 u9 h k true zero35
  rw [lookR_get] at this
  cases hl : lookR m k with
  | none => rw [hl] at this; exact this
  | some r => rw [hl] at this; exact this
theorem getN_lookup {H : Heap} {m : NM} {b : Nat} (h : Mp H b (kvN m)) (k : Bs) :
    HeapV Tryd.prog (Instr.lookup 49 (.map (some b)) (sv k) false) H (.int .i64 ((getN m k : Nat) : Int)) := by
  have := heap_lookup (P := Tryd.prog) (t := 49) u49 u9 h k false zero3
  rw [kvN_get] at this
  exact this
theorem no_con (r : Rec) (b : Bool) (H0 : Heap) : CallsH Tryd.prog 46 ⟨[.agg (rc r), .bool b]⟩ H0 fun v H1 => v = .bool (b && (!r.del && r.kind != 2)) ∧ Ext H0 H1 := by
  refine queue_no.ok ?_
  refine st_new fun g H1 hg e1 b1 => ?_
  refine ⟨r.del, fun _ => b1.rcell (rc_del _), r.kind, fun _ => b1.rcell (rc_kind _), ?_, e1⟩
  cases b <;> cases r.del <;> cases (r.kind != 2) <;> rfl
theorem cast_zero (k : Nat) : (((k : Nat) : Int) == 0) = decide (k = 0) := by
  by_cases h : k = 0
  · subst h; rfl
  · rw [decide_eq_false h]
    have : ((k : Nat) : Int) ≠ 0 := by omega
    simpa using this
theorem can_con {r : Rec} (hr : okR r = true) {m : RM} {own : List Rec} (hm : LikeM m own) {cm : NM} (hc : ∀ a, getN cm a = cntN m a) (b0 b1 : Nat) (H0 : Heap) (h0 : Mp H0 b0 (kvR m)) (h1 : Mp H0 b1 (kvN cm)) :
    CallsH Tryd.prog 31 ⟨[.agg (rc r), .map (some b0), .map (some b1)]⟩ H0 fun v H1 => v = .bool (canS r (setS own)) ∧ Ext H0 H1 := by
  have hin : decide (getN cm r.path = 0) = !insideS (setS own) r.path := by rw [hc]; exact hm.inside (okR_ne hr)
  refine queue_can.ok ?_
  refine st_new fun g H1 hg e1 b1' => ?_
  refine ⟨r.del, b1'.rcell (rc_del _), fun hd => ?_, fun hd => ?_⟩
  · refine ⟨r.path, b1'.rcell (rc_path _), _, _, lookR_tuple (h0.ext e1) r.path, ?_⟩
    refine st_rec _ fun g2 H2 hg2 e2 b2 => ?_
    refine ⟨_, fun _ => b2.rcell (rc_del _), r.path, fun _ => (b1'.ext e2).rcell (rc_path _), _, fun _ => getN_lookup ((h1.ext e1).ext e2) r.path, ?_, e1.trans e2⟩
    unfold canS
    rw [if_pos hd, setS_of, ← hm.look, cast_zero, hin]
    cases lookR m r.path with
    | none => rfl
    | some old =>
      obtain ⟨op, ok, od, ob⟩ := old
      cases od <;> rfl
  · refine ⟨r.path, b1'.rcell (rc_path _), ?_⟩
    have hp := okR_may hr
    refine (above_con r.path (by have := mayB_len hp; omega) H1).mono ?_
    rintro _ H2 ⟨a, c, rfl, hsl, e2⟩
    refine ⟨_, _, _, rfl, ?_⟩
    have hal : (aboveB r.path).length ≤ 111 := aboveB_most r.path
    refine ⟨LI fun i H => ∃ k : Nat, i = k ∧ k ≤ (aboveB r.path).length ∧ Ext H2 H ∧ ((aboveB r.path).take k).any (fun a => noS (lookR m a)) = false, LM fun i => (((aboveB r.path).length : Int) - i).toNat,
      ⟨⟨_, rfl⟩, 0, rfl, by omega, Ext.refl _, rfl⟩, ?_⟩
    rintro i H3 ⟨k, rfl, hk, e3, hnone⟩
    refine ⟨fun h => ?_, fun h => ?_⟩
    · have hk' : k < (aboveB r.path).length := by have := of_decide_eq_true h; omega
      obtain ⟨ad, ha, hrd⟩ := hsl.2 (by omega)
      have hgk : (aboveB r.path)[k]? = some (aboveB r.path)[k] := List.getElem?_eq_getElem hk'
      refine ⟨ad, ⟨ha, by omega, by omega⟩, (aboveB r.path)[k], by rw [toNat_cast]; exact e3.cell (hrd k _ hgk), _, _, lookR_tuple (h0.ext ((e1.trans e2).trans e3)) _, ?_⟩
      refine st_rec _ fun g4 H4 hg4 e4 b4 => ?_
      refine st_rd b4 (rc_size _) ?_
      refine (no_con _ _ H4).mono ?_
      rintro _ H5 ⟨rfl, e5⟩
      have hno : ((lookR m (aboveB r.path)[k]).isSome && (!((lookR m (aboveB r.path)[k]).getD r0).del && ((lookR m (aboveB r.path)[k]).getD r0).kind != 2)) = noS (lookR m (aboveB r.path)[k]) := by
        cases lookR m (aboveB r.path)[k] <;> rfl
      rw [hno]
      refine ⟨_, rfl, fun h5 => ⟨?_, ((e1.trans e2).trans e3).trans (e4.trans e5)⟩, fun h5 => ⟨⟨_, rfl⟩, ⟨k + 1, ?_, by omega, e3.trans (e4.trans e5), ?_⟩, ?_⟩⟩
      · have hb : badS (setS own) r.path = true := by
          rw [← hm.bad hp, List.any_eq_true]
          exact ⟨_, List.getElem_mem hk', h5⟩
        unfold canS
        rw [hd, hb]
        rfl
      · rw [wrap_i64 (by omega)]; omega
      · rw [List.take_succ_eq_append_getElem hk', List.any_append, hnone, Bool.false_or, List.any_cons, List.any_nil, Bool.or_false]
        exact h5
      · show (((aboveB r.path).length : Int) - IntKind.wrap .i64 ((k : Int) + 1)).toNat < (((aboveB r.path).length : Int) - (k : Int)).toNat
        rw [wrap_i64 (by omega)]
        omega
    · have : k = (aboveB r.path).length := by have := of_decide_eq_false h; omega
      subst this
      rw [List.take_length, hm.bad hp] at hnone
      refine ⟨r.kind, (b1'.ext (e2.trans e3)).rcell (rc_kind _), r.path, fun _ => (b1'.ext (e2.trans e3)).rcell (rc_path _), _, fun _ => getN_lookup (h1.ext ((e1.trans e2).trans e3)) r.path, ?_, (e1.trans e2).trans e3⟩
      unfold canS
      rw [hd, hnone, cast_zero, hin]
      show Value.bool (cond (r.kind == 2) true _) = Value.bool ((r.kind == 2) || _)
      cases (r.kind == 2) <;> rfl
end Go.Proofs.YtoemipeomingaaaDoor
