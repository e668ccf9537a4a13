/- Records of which path, kind, deleted and by count; slices of them; what few makes. -/
import Derived.Test.YtoemipeomingaaaDoorQMay
import Derived.Test.YtoemipeomingaaaDoorVcgS
namespace Go.Proofs.YtoemipeomingaaaDoor
open Go Go.V

structure Rec where
  path : Bs
  kind : Int
  del : Bool
  dev : Int
deriving DecidableEq
def u16 : List Value := List.replicate 16 (.int .u32 0)
def rcl (r : Rec) : List Value := [sv r.path, .int .i64 r.kind, .bool r.del, .int .i64 0, .int .i64 0, .int .i64 r.dev] ++ u16 ++ [.int .i64 0, .slice none 0 0, sv [], .int .i64 0, .int .i64 0]
def rc (r : Rec) : Array Value := ⟨rcl r⟩
theorem rc_size (r : Rec) : (rc r).size = 27 := rfl
theorem rc_one (r : Rec) : ∀ v ∈ (rc r).toList, v.oneCell' = true := by
  intro v hv
  simp [rc, rcl, u16] at hv
  rcases hv with rfl | rfl | rfl | rfl | rfl | rfl | rfl | rfl | rfl | rfl <;> rfl
theorem rc_inj {a b : Rec} (h : rc a = rc b) : a = b := by
  have h := congrArg Array.toList h
  simp [rc, rcl, sv] at h
  obtain ⟨h1, h2, h3, h4⟩ := h
  cases a; cases b
  simp_all
theorem zc35 : zc 35 = rc ⟨[], 0, false, 0⟩ := rfl
theorem build_rec (p : Bs) (k : Int) (d : Bool) (b : Int) : PureV Tryd.prog (Instr.build 35 ⟨[(0, sv p), (1, .int .i64 k), (2, .bool d), (5, .int .i64 b)]⟩) (.agg (rc ⟨p, k, d, b⟩)) := fun w => by kernel_rfl
theorem build_rec3 (p : Bs) (k : Int) (d : Bool) : PureV Tryd.prog (Instr.build 35 ⟨[(0, sv p), (1, .int .i64 k), (2, .bool d)]⟩) (.agg (rc ⟨p, k, d, 0⟩)) := fun w => by kernel_rfl
theorem build_rec2 (p : Bs) (k : Int) : PureV Tryd.prog (Instr.build 35 ⟨[(0, sv p), (1, .int .i64 k)]⟩) (.agg (rc ⟨p, k, false, 0⟩)) := fun w => by kernel_rfl
theorem build_rec1 (p : Bs) : PureV Tryd.prog (Instr.build 35 ⟨[(0, sv p)]⟩) (.agg (rc ⟨p, 0, false, 0⟩)) := fun w => by kernel_rfl
theorem build_rec0 : PureV Tryd.prog (Instr.build 35 ⟨[]⟩) (.agg (rc ⟨[], 0, false, 0⟩)) := fun w => by kernel_rfl

/-- a slice of records -/
def SlR (H : Heap) (a : Option Addr) (n : Nat) (l : List Rec) : Prop :=
  l.length = n ∧ (0 < n → ∃ ad, a = some ad ∧ ∀ k r, l[k]? = some r → RdN H (Addr.add ad (k * 27)) 27 (rc r))
theorem SlR.ext {H H' : Heap} {a : Option Addr} {n : Nat} {l : List Rec} (h : SlR H a n l) (e : Ext H H') : SlR H' a n l :=
  ⟨h.1, fun hn => let ⟨ad, h1, h2⟩ := h.2 hn; ⟨ad, h1, fun k x hx => (h2 k x hx).ext e⟩⟩
/-- a slice of records that came in: only the four fields are told -/
def RawR (H : Heap) (a : Option Addr) (n : Nat) (l : List Rec) : Prop :=
  l.length = n ∧ (0 < n → ∃ ad, a = some ad ∧ ∀ k r, l[k]? = some r → cellAt H (Addr.add (Addr.add ad (k * 27)) 0) = some (sv r.path) ∧ cellAt H (Addr.add (Addr.add ad (k * 27)) 1) = some (.int .i64 r.kind) ∧
    cellAt H (Addr.add (Addr.add ad (k * 27)) 2) = some (.bool r.del) ∧ cellAt H (Addr.add (Addr.add ad (k * 27)) 5) = some (.int .i64 r.dev))
theorem RawR.ext {H H' : Heap} {a : Option Addr} {n : Nat} {l : List Rec} (h : RawR H a n l) (e : Ext H H') : RawR H' a n l :=
  ⟨h.1, fun hn => let ⟨ad, h1, h2⟩ := h.2 hn; ⟨ad, h1, fun k x hx => let ⟨c1, c2, c3, c4⟩ := h2 k x hx; ⟨e.cell c1, e.cell c2, e.cell c3, e.cell c4⟩⟩⟩
def recs (l : List Rec) : List Value := l.flatMap rcl
theorem recs_len : ∀ l : List Rec, (recs l).length = l.length * 27
  | [] => rfl
  | r :: l => by
    have := recs_len l
    unfold recs at this ⊢
    rw [List.flatMap_cons, List.length_append, this, List.length_cons, Nat.succ_mul]
    have : (rcl r).length = 27 := rfl
    omega
theorem recs_snoc (l : List Rec) (r : Rec) : recs (l ++ [r]) = recs l ++ (Value.agg (rc r)).cells.toList := by simp [recs, rc, Value.cells]
theorem recs_append (a b : List Rec) : recs (a ++ b) = recs a ++ recs b := by simp [recs]
theorem recs_one (l : List Rec) : ∀ u ∈ recs l, u.oneCell' = true := by
  intro u hu
  simp only [recs, List.mem_flatMap] at hu
  obtain ⟨r, _, h⟩ := hu
  exact rc_one r u h
theorem recs_get : ∀ (l : List Rec) (k i : Nat) (r : Rec), l[k]? = some r → i < 27 → (recs l)[k * 27 + i]? = (rc r)[i]?
  | [], k, i, r, h, _ => by simp at h
  | x :: l, 0, i, r, h, hi => by
    have : x = r := by simpa using h
    subst this
    have hx : (rcl x).length = 27 := rfl
    rw [recs, List.flatMap_cons, Nat.zero_mul, Nat.zero_add, List.getElem?_append_left (by omega)]
    simp [rc]
  | x :: l, k + 1, i, r, h, hi => by
    have hx : (rcl x).length = 27 := rfl
    rw [recs, List.flatMap_cons, List.getElem?_append_right (by rw [hx, Nat.succ_mul]; omega), hx]
    rw [show (k + 1) * 27 + i - 27 = k * 27 + i by rw [Nat.succ_mul]; omega]
    exact recs_get l k i r (by simpa using h) hi
theorem _root_.Go.V.OwnH.slr {H : Heap} {B : Nat} {e : TypeId} {v : Value} {n : Nat} {l : List Rec} (h : OwnH H B e 27 v n (recs l)) : ∃ (a : Option Addr) (cap : Nat), v = .slice a n cap ∧ SlR H a n l := by
  have hn := h.1
  rw [recs_len] at hn
  have hn : l.length = n := by omega
  rcases h.2 with ⟨rfl, rfl⟩ | ⟨g, cap, cur, rfl, _, hb, _, _, _, ht⟩
  · exact ⟨none, 0, rfl, hn, fun h => absurd h (by omega)⟩
  · refine ⟨_, _, rfl, hn, fun _ => ⟨_, rfl, fun k r hr => ⟨rc_size r, fun i hi => ?_⟩⟩⟩
    have hk : k < n := by
      rcases Nat.lt_or_ge k l.length with h1 | h1
      · omega
      · rw [List.getElem?_eq_none h1] at hr; cases hr
    rw [add_add', hb.cellA, Nat.zero_add, ← recs_get l k i r hr hi, ← ht, List.getElem?_take, if_pos (by omega)]
    simp
/-- a record more, at the end of a slice of the call's own -/
theorem app_rec {B : Nat} {H : Heap} {a : Option Addr} {n c : Nat} {l : List Rec} (hown : OwnH H B 35 27 (.slice a n c) n (recs l)) (hB : B ≤ H.size) (hn : n ≤ 1000000000) (x : Rec)
    {F : Option Addr → Nat → Nat → Heap → Prop} (h : ∀ a3 c3 H3, OwnH H3 B 35 27 (.slice a3 (n + 1) c3) (n + 1) (recs (l ++ [x])) → GrownH H H3 (Value.ownBlock (.slice a n c)) →
      (∀ k, Value.ownBlock (.slice a3 (n + 1) c3) = some k → Value.ownBlock (.slice a n c) = some k ∨ H.size ≤ k) → F a3 (n + 1) c3 H3) :
    SemH Tryd.prog (Instr.buildSlice 22 1 ⟨[(0, .agg (rc x))]⟩) H fun r H2 => ∃ (a2 : Option Addr) (l2 c2 : Nat), r = .slice a2 l2 c2 ∧ SemH Tryd.prog (Builtin.append_ #[22, 22] 22 ⟨[.slice a n c, .slice a2 l2 c2]⟩) H2 fun r3 H3 =>
      ∃ (a3 : Option Addr) (l3 c3 : Nat), r3 = .slice a3 l3 c3 ∧ F a3 l3 c3 H3 := by
  refine app1 (P := Tryd.prog) tab_ok (t := 22) (ty := 22) (e := 35) rfl rfl rfl (by decide) hown hB (x := .agg (rc x)) rfl (rc_one x) (by decide) (by simp [maxLen]; omega) (by show (n + 1) * 184 ≤ _; omega) ?_
  intro a3 c3 H3 o g k
  rw [← recs_snoc] at o
  exact h a3 c3 H3 o g k
/-- a record more, at the end of a slice of the call's own -/
theorem app_recx {B : Nat} {H : Heap} {a : Option Addr} {n c : Nat} {l : List Rec} (hown : OwnH H B 35 27 (.slice a n c) n (recs l)) (hB : B ≤ H.size) (hn : n ≤ 1000000000) (x : Rec)
    {F : Option Addr → Nat → Nat → Heap → Prop} (h : ∀ a3 c3 H3, OwnH H3 B 35 27 (.slice a3 (n + 1) c3) (n + 1) (recs (l ++ [x])) → GrownH H H3 (Value.ownBlock (.slice a n c)) →
      (∀ k, Value.ownBlock (.slice a3 (n + 1) c3) = some k → Value.ownBlock (.slice a n c) = some k ∨ H.size ≤ k) → F a3 (n + 1) c3 H3) :
    SemH Tryd.prog (Instr.buildSlice 22 1 ⟨[(0, .agg (rc x))]⟩) H fun r H2 => ∃ (a2 : Option Addr) (l2 c2 : Nat), r = .slice a2 l2 c2 ∧ Ext H H2 ∧ SemH Tryd.prog (Builtin.append_ #[22, 22] 22 ⟨[.slice a n c, .slice a2 l2 c2]⟩) H2 fun r3 H3 =>
      ∃ (a3 : Option Addr) (l3 c3 : Nat), r3 = .slice a3 l3 c3 ∧ F a3 l3 c3 H3 := by
  refine app1x (P := Tryd.prog) tab_ok (t := 22) (ty := 22) (e := 35) rfl rfl rfl (by decide) hown hB (x := .agg (rc x)) rfl (rc_one x) (by decide) (by simp [maxLen]; omega) (by show (n + 1) * 184 ≤ _; omega) ?_
  intro a3 c3 H3 o g k
  rw [← recs_snoc] at o
  exact h a3 c3 H3 o g k
def fewR (r : Rec) : Rec := { r with path := r.path.take 400 }
def fewL (l : List Rec) : List Rec := (l.take 40).map fewR
end Go.Proofs.YtoemipeomingaaaDoor
