/- Append to a slice of the call's own, over the heap alone. -/
import Derived.Test.YtoemipeomingaaaDoorVcgN
import Derived.Laws.AppendOwn
import Derived.Laws.OwnMore
namespace Go.V
open Go

/-- the slice is nil or leads to a block of the call's own (from B on); its n elements are the cells xs -/
def OwnH (H : Heap) (B : Nat) (e : TypeId) (size : Nat) (v : Value) (n : Nat) (xs : List Value) : Prop :=
  xs.length = n * size ∧
  ((v = .slice none 0 0 ∧ n = 0) ∨
   ∃ g cap cur, v = .slice (some ⟨g, 0, none⟩) n cap ∧ B ≤ g ∧ Blk H g e cur ∧ n ≤ cap ∧ cap ≤ maxLen ∧ cur.size = cap * size ∧ cur.toList.take (n * size) = xs)
theorem ownH_iff (w : World) (B : Nat) (e : TypeId) (size : Nat) (v : Value) (n : Nat) (xs : List Value) : OwnH w.heap B e size v n xs ↔ w.ownsRow B e size v n xs := Iff.rfl
theorem OwnH.nil (H : Heap) (B : Nat) (e : TypeId) (size : Nat) : OwnH H B e size (.slice none 0 0) 0 [] := ⟨by simp, .inl ⟨rfl, rfl⟩⟩
theorem OwnH.none_left {H : Heap} {B g : Nat} {e : TypeId} {size : Nat} (hb : Blk H g e #[]) (hg : B ≤ g) : OwnH H B e size (.slice (some ⟨g, 0, none⟩) 0 0) 0 [] :=
  ⟨by simp, .inr ⟨g, 0, #[], rfl, hg, hb, Nat.le_refl _, by simp [maxLen], by simp, by simp⟩⟩
theorem OwnH.ext {H H' : Heap} {B : Nat} {e : TypeId} {size : Nat} {v : Value} {n : Nat} {xs : List Value} (h : OwnH H B e size v n xs) (x : Ext H H') : OwnH H' B e size v n xs := by
  refine ⟨h.1, ?_⟩
  rcases h.2 with h2 | ⟨g, cap, cur, h1, h2, h3, h4⟩
  · exact .inl h2
  · exact .inr ⟨g, cap, cur, h1, h2, h3.ext x, h4⟩
/-- what an append turns: new blocks, and the one block that it was handed -/
structure GrownH (H H' : Heap) (row : Option Nat) : Prop where
  size : H.size ≤ H'.size
  block : ∀ k, k < H.size → some k ≠ row → H'[k]? = H[k]?
theorem GrownH.blk {H H' : Heap} {row : Option Nat} (h : GrownH H H' row) {g : Nat} {t : TypeId} {cs : Array Value} (hb : Blk H g t cs) (hne : some g ≠ row) : Blk H' g t cs := by
  unfold Blk
  rw [h.block g hb.lt hne]
  exact hb
theorem GrownH.of_ext {H0 H H' : Heap} {row : Option Nat} (e : Ext H0 H) (h : GrownH H H' row) (hr : ∀ k, row = some k → H0.size ≤ k) : Ext H0 H' :=
  ⟨Nat.le_trans e.size h.size, fun b hb => by
    rw [h.block b (Nat.lt_of_lt_of_le hb e.size) (fun he => by have := hr b he.symm; omega)]
    exact e.block b hb⟩

theorem sem_append {P : Program} {T : Tab} (hT : TabOk P T) {t ty e : Nat} {ie : Ty} (ht : descOf T t = .slice e) (hie : tget T e = some ie) (hzs : ie.zero.cells.size = ie.size) (hsz : 0 < ie.size)
    {B : Nat} {H : Heap} {v : Value} {n : Nat} {xs : List Value} (hown : OwnH H B e ie.size v n xs) (hB : B ≤ H.size)
    {a : Option Addr} {m c : Nat} {news : List Value} (hl : news.length = m * ie.size) (hnil : a = none → m = 0 ∧ c = 0) (hnews : ∀ ad, a = some ad → ∀ j u, news[j]? = some u → cellAt H (ad.add j) = some u) (h1 : ∀ u ∈ news, u.oneCell' = true)
    (h63 : n + m ≤ maxLen) (hbytes : (n + m) * ie.bytes ≤ 140737488355328) :
    SemH P (Builtin.append_ #[t, t] ty ⟨[v, .slice a m c]⟩) H fun v' H' => OwnH H' B e ie.size v' (n + m) (xs ++ news) ∧ GrownH H H' v.ownBlock ∧ (∀ k, v'.ownBlock = some k → v.ownBlock = some k ∨ H.size ≤ k) := by
  intro w hw
  subst hw
  have hu := descOf_und hT ht (by simp)
  obtain ⟨j, hj, hjs, hjb, hz⟩ := hT.info e ie hie
  cases a with
  | none =>
    obtain ⟨rfl, rfl⟩ := hnil rfl
    have hn : news = [] := List.eq_nil_of_length_eq_zero (by simpa using hl)
    subst hn
    refine ⟨v, w, run_append_owned_none w B t ty e j ie.size hu hj v n xs hown, ⟨rfl, rfl, rfl, Nat.le_refl _⟩, by simpa using hown, ⟨Nat.le_refl _, fun _ _ _ => rfl⟩, fun k hk => .inl hk⟩
  | some ad =>
    obtain ⟨v', w', hr, h2, h3, _⟩ := run_append_own (P := P) w B t ty e j ie.zero ie.size ie.bytes hu hj hz hjs hjb hzs hsz v n xs hown ad m c news hl (fun k u hk => hnews ad rfl k u hk) h1 h63 hbytes hB
    suffices hd : w.drawn ≤ w'.drawn ∧ (∀ k, v'.ownBlock = some k → v.ownBlock = some k ∨ w.heap.size ≤ k) from
      ⟨v', w', hr, ⟨h3.os, h3.tape, h3.output, hd.1⟩, h2, ⟨h3.size, h3.block⟩, hd.2⟩
    have hnw : ∀ k u, news[k]? = some u → w.cell? (ad.add k) = some u := fun k u hk => hnews ad rfl k u hk
    have h63' : n + m ≤ 9223372036854775807 := by simp only [maxLen] at h63; omega
    have hown' : w.ownsRow B e j.size v n xs := by rw [hjs]; exact hown
    rw [← hjs] at hl hown
    rw [← hjb] at hbytes
    have key : ∀ v2 w2, (Builtin.append_ #[t, t] ty #[v, .slice (some ad) m c]).run P w = .ok v2 w2 → w.drawn ≤ w2.drawn → (∀ k, v2.ownBlock = some k → v.ownBlock = some k ∨ w.heap.size ≤ k) → w.drawn ≤ w'.drawn ∧ (∀ k, v'.ownBlock = some k → v.ownBlock = some k ∨ w.heap.size ≤ k) := fun v2 w2 h4 h5 h7 => by
      rw [hr] at h4
      injection h4 with h8 h6
      rw [h6, h8]
      exact ⟨h5, h7⟩
    rcases hown.2 with ⟨hv, hn⟩ | ⟨g, cap, cur, hv, _, hg, hnc, _, hcs, _⟩
    · subst hv
      subst hn
      by_cases hm : m = 0
      · subst hm
        exact key (.slice none 0 0) w (by simp [Builtin.append_, run_underlying hu, sizeOf, typeInfo, hj, Builtin.lenOf, Builtin.firstCells, loadCells, loadCellsFrom]) (Nat.le_refl _) (fun k hk => .inl hk)
      · exact key _ _ (run_append_nil (P := P) w t ty e j ie.zero hu hj hz ad m c news hl hnw (by omega) (by omega) (by simp only [Nat.zero_add] at hbytes; omega)) (Nat.le_succ _) (fun k hk => .inr (by simp [Value.ownBlock] at hk; omega))
    · subst hv
      by_cases hroom : n + m ≤ cap
      · exact key _ _ (run_append_room (P := P) w t ty e j hu hj g n cap cur hg ad m c news hl hnw h1 hroom (by rw [hl, hcs, ← Nat.add_mul]; exact Nat.mul_le_mul_right _ hroom)) (Nat.le_refl _) (fun k hk => .inl hk)
      · exact key _ _ (run_append_grow (P := P) w t ty e j ie.zero hu hj hz ⟨g, 0, none⟩ n cap xs hown.1 (World.ownsRow.cells (w := w) hown' rfl) ad m c news hl hnw (by omega) (by omega) (growslice_fits (by omega) hbytes)) (Nat.le_succ _) (fun k hk => .inr (by simp [Value.ownBlock] at hk; omega))

theorem OwnH.base {H : Heap} {B : Nat} {e : TypeId} {size : Nat} {v : Value} {n : Nat} {xs : List Value} (h : OwnH H B e size v n xs) : ∀ k, v.ownBlock = some k → B ≤ k ∧ k < H.size := by
  intro k hk
  rcases h.2 with ⟨rfl, _⟩ | ⟨g, cap, cur, rfl, hb, hg, _⟩
  · simp [Value.ownBlock] at hk
  · simp [Value.ownBlock] at hk
    subst hk
    exact ⟨hb, hg.lt⟩
theorem OwnH.kept {H H' : Heap} {row : Option Nat} {B : Nat} {e : TypeId} {size : Nat} {v : Value} {n : Nat} {xs : List Value} (h : OwnH H B e size v n xs) (g : GrownH H H' row) (hne : ∀ k, v.ownBlock = some k → some k ≠ row) : OwnH H' B e size v n xs := by
  refine ⟨h.1, ?_⟩
  rcases h.2 with h2 | ⟨q, cap, cur, h1, h2, h3, h4⟩
  · exact .inl h2
  · exact .inr ⟨q, cap, cur, h1, h2, g.blk h3 (hne q (by rw [h1]; rfl)), h4⟩
theorem GrownH.of_ext' {H H' : Heap} {row : Option Nat} (h : Ext H H') : GrownH H H' row := ⟨h.size, fun k hk _ => h.block k hk⟩
theorem GrownH.trans {H H1 H2 : Heap} {row : Option Nat} (h : GrownH H H1 row) (k : GrownH H1 H2 row) : GrownH H H2 row :=
  ⟨Nat.le_trans h.size k.size, fun b hb hne => (k.block b (Nat.lt_of_lt_of_le hb h.size) hne).trans (h.block b hb hne)⟩
/-- one element more -/
theorem app1x {P : Program} {T : Tab} (hT : TabOk P T) {t ty e : Nat} {ie : Ty} (ht : descOf T t = .slice e) (hie : tget T e = some ie) (hzs : ie.zero.cells.size = ie.size) (hsz : 0 < ie.size)
    {B : Nat} {H : Heap} {a : Option Addr} {n c : Nat} {xs : List Value} (hown : OwnH H B e ie.size (.slice a n c) n xs) (hB : B ≤ H.size)
    {x : Value} (hx : x.cells.size = ie.size) (h1 : ∀ u ∈ x.cells.toList, u.oneCell' = true) (h16 : ie.size ≤ 16777216) (h63 : n + 1 ≤ maxLen) (hbytes : (n + 1) * ie.bytes ≤ 140737488355328)
    {F : Option Addr → Nat → Nat → Heap → Prop} (h : ∀ a3 c3 H3, OwnH H3 B e ie.size (.slice a3 (n + 1) c3) (n + 1) (xs ++ x.cells.toList) → GrownH H H3 (Value.ownBlock (.slice a n c)) →
      (∀ k, Value.ownBlock (.slice a3 (n + 1) c3) = some k → Value.ownBlock (.slice a n c) = some k ∨ H.size ≤ k) → F a3 (n + 1) c3 H3) :
    SemH P (Instr.buildSlice t 1 ⟨[(0, x)]⟩) H fun r H2 => ∃ (a2 : Option Addr) (l2 c2 : Nat), r = .slice a2 l2 c2 ∧ Ext H H2 ∧ SemH P (Builtin.append_ #[t, t] ty ⟨[.slice a n c, .slice a2 l2 c2]⟩) H2 fun r3 H3 =>
      ∃ (a3 : Option Addr) (l3 c3 : Nat), r3 = .slice a3 l3 c3 ∧ F a3 l3 c3 H3 := by
  refine (sem_buildSlice (P := P) hT ht hie [x] [(0, x)] rfl H (n := 1) rfl (by simpa using hx) (by omega)).mono ?_
  rintro _ H2 ⟨g, rfl, hg, e2, b2⟩
  refine ⟨_, _, _, rfl, e2, ?_⟩
  have hfl : ([x].flatMap fun v => v.cells.toList) = x.cells.toList := by simp
  rw [hfl] at b2
  refine (sem_append hT ht hie hzs hsz (hown.ext e2) (Nat.le_trans hB e2.size) (a := some ⟨g, 0, none⟩) (m := 1) (c := 1) (news := x.cells.toList) (by simpa using hx) (by intro h; cases h) ?_ h1 h63 hbytes).mono ?_
  · intro ad ha j u hj
    injection ha with ha
    subst ha
    rw [b2.cellA, Nat.zero_add]
    simpa using hj
  · rintro v3 H3 ⟨o3, g3, n3⟩
    rcases o3.2 with ⟨rfl, h0⟩ | ⟨q, cap, cur, rfl, hb, hbk, hrest⟩
    · omega
    · refine ⟨_, _, _, rfl, h _ _ _ o3 ((GrownH.of_ext' e2).trans g3) (fun k hk => ?_)⟩
      rcases n3 k hk with h5 | h5
      · exact .inl h5
      · exact .inr (Nat.le_trans e2.size h5)

/-- one element more -/
theorem app1 {P : Program} {T : Tab} (hT : TabOk P T) {t ty e : Nat} {ie : Ty} (ht : descOf T t = .slice e) (hie : tget T e = some ie) (hzs : ie.zero.cells.size = ie.size) (hsz : 0 < ie.size)
    {B : Nat} {H : Heap} {a : Option Addr} {n c : Nat} {xs : List Value} (hown : OwnH H B e ie.size (.slice a n c) n xs) (hB : B ≤ H.size)
    {x : Value} (hx : x.cells.size = ie.size) (h1 : ∀ u ∈ x.cells.toList, u.oneCell' = true) (h16 : ie.size ≤ 16777216) (h63 : n + 1 ≤ maxLen) (hbytes : (n + 1) * ie.bytes ≤ 140737488355328)
    {F : Option Addr → Nat → Nat → Heap → Prop} (h : ∀ a3 c3 H3, OwnH H3 B e ie.size (.slice a3 (n + 1) c3) (n + 1) (xs ++ x.cells.toList) → GrownH H H3 (Value.ownBlock (.slice a n c)) →
      (∀ k, Value.ownBlock (.slice a3 (n + 1) c3) = some k → Value.ownBlock (.slice a n c) = some k ∨ H.size ≤ k) → F a3 (n + 1) c3 H3) :
    SemH P (Instr.buildSlice t 1 ⟨[(0, x)]⟩) H fun r H2 => ∃ (a2 : Option Addr) (l2 c2 : Nat), r = .slice a2 l2 c2 ∧ SemH P (Builtin.append_ #[t, t] ty ⟨[.slice a n c, .slice a2 l2 c2]⟩) H2 fun r3 H3 =>
      ∃ (a3 : Option Addr) (l3 c3 : Nat), r3 = .slice a3 l3 c3 ∧ F a3 l3 c3 H3 :=
  (app1x hT ht hie hzs hsz hown hB hx h1 h16 h63 hbytes h).mono fun _ _ ⟨a2, l2, c2, e, _, hh⟩ => ⟨a2, l2, c2, e, hh⟩

/-! ### Slices of strings -/
/-- a slice of texts -/
def SlS (H : Heap) (a : Option Addr) (n : Nat) (l : List (List UInt8)) : Prop :=
  l.length = n ∧ (0 < n → ∃ ad, a = some ad ∧ ∀ k x, l[k]? = some x → cellAt H (Addr.add ad (k * 1)) = some (.string ⟨⟨x⟩⟩))
theorem SlS.ext {H H' : Heap} {a : Option Addr} {n : Nat} {l : List (List UInt8)} (h : SlS H a n l) (e : Ext H H') : SlS H' a n l :=
  ⟨h.1, fun hn => let ⟨ad, h1, h2⟩ := h.2 hn; ⟨ad, h1, fun k x hx => e.cell (h2 k x hx)⟩⟩
def strs (l : List (List UInt8)) : List Value := l.map fun s => .string ⟨⟨s⟩⟩
theorem OwnH.sls {H : Heap} {B : Nat} {e : TypeId} {v : Value} {n : Nat} {l : List (List UInt8)} (h : OwnH H B e 1 v n (strs l)) : ∃ (a : Option Addr) (cap : Nat), v = .slice a n cap ∧ SlS H a n l := by
  have hn := h.1
  simp [strs] at hn
  rcases h.2 with ⟨rfl, rfl⟩ | ⟨g, cap, cur, rfl, _, hb, _, _, _, ht⟩
  · exact ⟨none, 0, rfl, hn, fun h => absurd h (by omega)⟩
  · refine ⟨_, _, rfl, hn, fun _ => ⟨_, rfl, fun k x hx => ?_⟩⟩
    have hk : k < n := by
      rcases Nat.lt_or_ge k l.length with h1 | h1
      · omega
      · rw [List.getElem?_eq_none h1] at hx; cases hx
    rw [hb.cellA, Nat.zero_add, Nat.mul_one]
    have e2 : (strs l)[k]? = some (.string ⟨⟨x⟩⟩) := by simp [strs, hx]
    rw [← ht, List.getElem?_take, if_pos (by omega)] at e2
    simpa using e2

/-! ### Slices of vectors -/
def flatV (l : List Vec) : List Value := (l.map fun v => Value.agg (vc v)).flatMap fun v => v.cells.toList
theorem flatV_len : ∀ (l : List Vec), (∀ v ∈ l, VOk v) → (flatV l).length = l.length * 16
  | [], _ => rfl
  | v :: r, h => by
    have := flatV_len r (fun u hu => h u (List.mem_cons_of_mem _ hu))
    have h2 := (h v List.mem_cons_self).1
    unfold flatV at this ⊢
    rw [List.map_cons, List.flatMap_cons, List.length_append, this]
    simp [Value.cells, vc_size, h2, Nat.succ_mul]
    omega
theorem flatV_get {l : List Vec} (h : ∀ v ∈ l, VOk v) {k i : Nat} (hk : k < l.length) (hi : i < 16) : (flatV l)[k * 16 + i]? = (vc l[k])[i]? := by
  have := flat_get 16 (l.map fun v => Value.agg (vc v)) (fun v hv => by simp at hv; obtain ⟨u, hu, rfl⟩ := hv; simp [Value.cells, vc_size, (h u hu).1]) k i (by simpa using hk) hi
  rw [List.getElem_map] at this
  exact this
theorem flatV_one (l : List Vec) : ∀ u ∈ flatV l, u.oneCell' = true := by
  intro u hu
  simp only [flatV, List.mem_flatMap, List.mem_map] at hu
  obtain ⟨_, ⟨v, _, rfl⟩, h⟩ := hu
  exact vc_one v u h
theorem SlV.flat {H : Heap} {a : Option Addr} {n : Nat} {l : List Vec} (h : SlV H a n l) (hl : ∀ v ∈ l, VOk v) : ∀ ad, a = some ad → ∀ j u, (flatV l)[j]? = some u → cellAt H (ad.add j) = some u := by
  intro ad ha j u hj
  have hlt : j < (flatV l).length := by
    rcases Nat.lt_or_ge j (flatV l).length with h1 | h1
    · exact h1
    · rw [List.getElem?_eq_none h1] at hj; cases hj
  rw [flatV_len l hl] at hlt
  have hk : j / 16 < l.length := by omega
  have hi : j % 16 < 16 := Nat.mod_lt _ (by omega)
  obtain ⟨ad', ha', hr⟩ := h.2 (by rw [← h.1]; omega)
  have : ad' = ad := by rw [ha'] at ha; injection ha
  subst this
  have e := (hr _ hk).2 _ hi
  have hj' : j / 16 * 16 + j % 16 = j := by omega
  rw [add_add', hj'] at e
  rw [e, ← flatV_get hl hk hi, hj', hj]
theorem OwnH.slv {H : Heap} {B : Nat} {e : TypeId} {v : Value} {n : Nat} {l : List Vec} (h : OwnH H B e 16 v n (flatV l)) (hl : ∀ u ∈ l, VOk u) : ∃ (a : Option Addr) (cap : Nat), v = .slice a n cap ∧ SlV H a n l := by
  have hn := h.1
  rw [flatV_len l hl] at hn
  have hn : l.length = n := by omega
  rcases h.2 with ⟨rfl, rfl⟩ | ⟨g, cap, cur, rfl, _, hb, _, _, _, ht⟩
  · exact ⟨none, 0, rfl, hn, fun h => absurd h (by omega)⟩
  · refine ⟨_, _, rfl, hn, fun _ => ⟨_, rfl, fun k hk => ⟨by rw [vc_size, (hl _ (List.getElem_mem hk)).1], fun i hi => ?_⟩⟩⟩
    rw [add_add', hb.cellA, Nat.zero_add, ← flatV_get hl hk hi, ← ht, List.getElem?_take, if_pos (by omega)]
    simp
end Go.V
