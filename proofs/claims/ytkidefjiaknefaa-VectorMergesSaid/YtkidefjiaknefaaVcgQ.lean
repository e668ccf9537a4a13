/- Append to a slice of the call's own, over the heap alone. -/
import Derived.Test.YtkidefjiaknefaaVcgN
import Derived.Laws.AppendOwn
import Derived.Laws.OwnMore
namespace Go.V
open Go

/-- the slice is nil or leads to a block of the call's own (from B on); its n elements are the cells xs -/
def OwnH (H : Heap) (B : Nat) (e : TypeId) (size : Nat) (v : Value) (n : Nat) (xs : List Value) : Prop :=
  xs.length = n * size ∧
  ((v = .slice none 0 0 ∧ n = 0) ∨
   ∃ g cap cur, v = .slice (some ⟨g, 0, none⟩) n cap ∧ B ≤ g ∧ Blk H g e cur ∧ n ≤ cap ∧ cap ≤ maxLen ∧ cur.size = cap * size ∧ cur.toList.take (n * size) = xs)
theorem ownH_iff (w : World) (B : Nat) (e : TypeId) (size : Nat) (v : Value) (n : Nat) (xs : List Value) : OwnH w.heap B e size v n xs ↔ w.ownsRow B e size v n xs := Iff.rfl
theorem OwnH.nil (H : Heap) (B : Nat) (e : TypeId) (size : Nat) : OwnH H B e size (.slice none 0 0) 0 [] := ⟨by simp, .inl ⟨rfl, rfl⟩⟩
theorem OwnH.none_left {H : Heap} {B g : Nat} {e : TypeId} {size : Nat} (hb : Blk H g e #[]) (hg : B ≤ g) : OwnH H B e size (.slice (some ⟨g, 0, none⟩) 0 0) 0 [] :=
  ⟨by simp, .inr ⟨g, 0, #[], rfl, hg, hb, Nat.le_refl _, by simp [maxLen], by simp, by simp⟩⟩
theorem OwnH.ext {H H' : Heap} {B : Nat} {e : TypeId} {size : Nat} {v : Value} {n : Nat} {xs : List Value} (h : OwnH H B e size v n xs) (x : Ext H H') : OwnH H' B e size v n xs := by
  refine ⟨h.1, ?_⟩
  rcases h.2 with h2 | ⟨g, cap, cur, h1, h2, h3, h4⟩
  · exact .inl h2
  · exact .inr ⟨g, cap, cur, h1, h2, h3.ext x, h4⟩
/-- what an append turns: new blocks, and the one block that it was handed -/
structure GrownH (H H' : Heap) (row : Option Nat) : Prop where
  size : H.size ≤ H'.size
  block : ∀ k, k < H.size → some k ≠ row → H'[k]? = H[k]?
theorem GrownH.blk {H H' : Heap} {row : Option Nat} (h : GrownH H H' row) {g : Nat} {t : TypeId} {cs : Array Value} (hb : Blk H g t cs) (hne : some g ≠ row) : Blk H' g t cs := by
  unfold Blk
  rw [h.block g hb.lt hne]
  exact hb
theorem GrownH.of_ext {H0 H H' : Heap} {row : Option Nat} (e : Ext H0 H) (h : GrownH H H' row) (hr : ∀ k, row = some k → H0.size ≤ k) : Ext H0 H' :=
  ⟨Nat.le_trans e.size h.size, fun b hb => by
    rw [h.block b (Nat.lt_of_lt_of_le hb e.size) (fun he => by have := hr b he.symm; omega)]
    exact e.block b hb⟩

theorem sem_append {P : Program} {T : Tab} (hT : TabOk P T) {t ty e : Nat} {ie : Ty} (ht : descOf T t = .slice e) (hie : tget T e = some ie) (hzs : ie.zero.cells.size = ie.size) (hsz : 0 < ie.size)
    {B : Nat} {H : Heap} {v : Value} {n : Nat} {xs : List Value} (hown : OwnH H B e ie.size v n xs) (hB : B ≤ H.size)
    {a : Option Addr} {m c : Nat} {news : List Value} (hl : news.length = m * ie.size) (hnil : a = none → m = 0 ∧ c = 0) (hnews : ∀ ad, a = some ad → ∀ j u, news[j]? = some u → cellAt H (ad.add j) = some u) (h1 : ∀ u ∈ news, u.oneCell' = true)
    (h63 : n + m ≤ maxLen) (hbytes : (n + m) * ie.bytes ≤ 140737488355328) :
    SemH P (Builtin.append_ #[t, t] ty ⟨[v, .slice a m c]⟩) H fun v' H' => OwnH H' B e ie.size v' (n + m) (xs ++ news) ∧ GrownH H H' v.ownBlock := by
  intro w hw
  subst hw
  have hu := descOf_und hT ht (by simp)
  obtain ⟨j, hj, hjs, hjb, hz⟩ := hT.info e ie hie
  cases a with
  | none =>
    obtain ⟨rfl, rfl⟩ := hnil rfl
    have hn : news = [] := List.eq_nil_of_length_eq_zero (by simpa using hl)
    subst hn
    refine ⟨v, w, run_append_owned_none w B t ty e j ie.size hu hj v n xs hown, ⟨rfl, rfl, rfl⟩, by simpa using hown, Nat.le_refl _, fun _ _ _ => rfl⟩
  | some ad =>
    obtain ⟨v', w', hr, h2, h3, _⟩ := run_append_own (P := P) w B t ty e j ie.zero ie.size ie.bytes hu hj hz hjs hjb hzs hsz v n xs hown ad m c news hl (fun k u hk => hnews ad rfl k u hk) h1 h63 hbytes hB
    exact ⟨v', w', hr, ⟨h3.os, h3.tape, h3.output⟩, h2, h3.size, h3.block⟩

/-! ### Slices of vectors -/
def flatV (l : List Vec) : List Value := (l.map fun v => Value.agg (vc v)).flatMap fun v => v.cells.toList
theorem flatV_len : ∀ (l : List Vec), (∀ v ∈ l, VOk v) → (flatV l).length = l.length * 16
  | [], _ => rfl
  | v :: r, h => by
    have := flatV_len r (fun u hu => h u (List.mem_cons_of_mem _ hu))
    have h2 := (h v List.mem_cons_self).1
    unfold flatV at this ⊢
    rw [List.map_cons, List.flatMap_cons, List.length_append, this]
    simp [Value.cells, vc_size, h2, Nat.succ_mul]
    omega
theorem flatV_get {l : List Vec} (h : ∀ v ∈ l, VOk v) {k i : Nat} (hk : k < l.length) (hi : i < 16) : (flatV l)[k * 16 + i]? = (vc l[k])[i]? := by
  have := flat_get 16 (l.map fun v => Value.agg (vc v)) (fun v hv => by simp at hv; obtain ⟨u, hu, rfl⟩ := hv; simp [Value.cells, vc_size, (h u hu).1]) k i (by simpa using hk) hi
  rw [List.getElem_map] at this
  exact this
theorem flatV_one (l : List Vec) : ∀ u ∈ flatV l, u.oneCell' = true := by
  intro u hu
  simp only [flatV, List.mem_flatMap, List.mem_map] at hu
  obtain ⟨_, ⟨v, _, rfl⟩, h⟩ := hu
  exact vc_one v u h
theorem SlV.flat {H : Heap} {a : Option Addr} {n : Nat} {l : List Vec} (h : SlV H a n l) (hl : ∀ v ∈ l, VOk v) : ∀ ad, a = some ad → ∀ j u, (flatV l)[j]? = some u → cellAt H (ad.add j) = some u := by
  intro ad ha j u hj
  have hlt : j < (flatV l).length := by
    rcases Nat.lt_or_ge j (flatV l).length with h1 | h1
    · exact h1
    · rw [List.getElem?_eq_none h1] at hj; cases hj
  rw [flatV_len l hl] at hlt
  have hk : j / 16 < l.length := by omega
  have hi : j % 16 < 16 := Nat.mod_lt _ (by omega)
  obtain ⟨ad', ha', hr⟩ := h.2 (by rw [← h.1]; omega)
  have : ad' = ad := by rw [ha'] at ha; injection ha
  subst this
  have e := (hr _ hk).2 _ hi
  have hj' : j / 16 * 16 + j % 16 = j := by omega
  rw [add_add', hj'] at e
  rw [e, ← flatV_get hl hk hi, hj', hj]
theorem OwnH.slv {H : Heap} {B : Nat} {e : TypeId} {v : Value} {n : Nat} {l : List Vec} (h : OwnH H B e 16 v n (flatV l)) (hl : ∀ u ∈ l, VOk u) : ∃ (a : Option Addr) (cap : Nat), v = .slice a n cap ∧ SlV H a n l := by
  have hn := h.1
  rw [flatV_len l hl] at hn
  have hn : l.length = n := by omega
  rcases h.2 with ⟨rfl, rfl⟩ | ⟨g, cap, cur, rfl, _, hb, _, _, _, ht⟩
  · exact ⟨none, 0, rfl, hn, fun h => absurd h (by omega)⟩
  · refine ⟨_, _, rfl, hn, fun _ => ⟨_, rfl, fun k hk => ⟨by rw [vc_size, (hl _ (List.getElem_mem hk)).1], fun i hi => ?_⟩⟩⟩
    rw [add_add', hb.cellA, Nat.zero_add, ← flatV_get hl hk hi, ← ht, List.getElem?_take, if_pos (by omega)]
    simp
end Go.V
