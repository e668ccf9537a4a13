/- Steps that come up often. -/
import Derived.Test.YtoemipeomingaaaDoorQLike
namespace Go.Proofs.YtoemipeomingaaaDoor
open Go Go.V

/-- a record laid into a block of its own -/
theorem st_rec {H : Heap} (r : Rec) {F : Nat → Heap → Prop} (h : ∀ g H2, H.size ≤ g → Ext H H2 → Blk H2 g 35 (rc r) → F g H2) :
    ∀ g H1, NewB H 35 (zc 35) g H1 → ∃ H2, (rc r).size = 27 ∧ wrN H1 ⟨g, 0, none⟩ (rc r).toList 0 = some H2 ∧ F g H2 := by
  refine st_new fun g H1 hg e1 b1 => ?_
  refine st_wr b1 (rc_size _) rfl (rc_one _) fun H2 h2 b2 => ?_
  exact h g H2 hg (by rw [h2]; exact e1.upd hg) b2
def LSl (f : Option Addr → Nat → Nat → Heap → Prop) : List Value → Heap → Prop
  | [.slice a n c], H => f a n c H
  | _, _ => False
theorem SlR.of_nil (H : Heap) (a : Option Addr) : SlR H a 0 [] := ⟨rfl, fun h => absurd h (by omega)⟩
def rAt (m : RM) (i : Nat) : Rec := match m[i]? with
  | some p => p.2
  | none => ⟨[], 0, false, 0⟩
theorem rAt_all (m : RM) : (List.range m.length).map (rAt m) = m.map (·.2) := by
  apply List.ext_getElem (by simp)
  intro i h1 h2
  have hi : i < m.length := by simpa using h2
  simp [rAt, hi]
theorem _root_.Go.V.OwnH.flat {H : Heap} {B : Nat} {e : TypeId} {size : Nat} {a : Option Addr} {n c : Nat} {xs : List Value} (h : OwnH H B e size (.slice a n c) n xs) :
    (a = none → n = 0 ∧ c = 0) ∧ ∀ ad, a = some ad → ∀ j u, xs[j]? = some u → cellAt H (ad.add j) = some u := by
  rcases h.2 with ⟨he, hn⟩ | ⟨g, cap, cur, he, hB, hb, _, _, _, ht⟩
  · injection he with h1 h2 h3
    exact ⟨fun _ => ⟨hn, h3⟩, fun ad ha => (by rw [h1] at ha; cases ha)⟩
  · injection he with h1 h2 h3
    refine ⟨fun ha => (by rw [h1] at ha; cases ha), fun ad ha j u hj => ?_⟩
    rw [h1] at ha
    injection ha with ha
    subst ha
    have hlt : j < n * size := by
      rw [← h.1]
      rcases Nat.lt_or_ge j xs.length with hl | hl
      · exact hl
      · rw [List.getElem?_eq_none hl] at hj; cases hj
    rw [hb.cellA, Nat.zero_add, ← hj, ← ht, List.getElem?_take, if_pos hlt]
    simp
theorem filter_take_succ {α : Type} {l : List α} {k : Nat} (h : k < l.length) (f : α → Bool) : (l.take (k + 1)).filter f = (l.take k).filter f ++ (if f l[k] then [l[k]] else []) := by
  rw [List.take_succ_eq_append_getElem h, List.filter_append]
  congr 1
  rw [List.filter_cons, List.filter_nil]
theorem setS_short (l : List Rec) : Short (setS l) := fun r hr => by
  have := mayB_len (okR_may (setS_ok l r hr))
  omega
theorem _root_.Go.V.OwnH.slr' {H : Heap} {B : Nat} {e : TypeId} {a : Option Addr} {n c : Nat} {l : List Rec} (h : OwnH H B e 27 (.slice a n c) n (recs l)) : SlR H a n l := by
  obtain ⟨a2, c2, he, hs⟩ := h.slr
  injection he with h1
  rw [h1]
  exact hs
end Go.Proofs.YtoemipeomingaaaDoor
