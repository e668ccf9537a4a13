/- Maps that hold what a list says last of each path. -/
import Derived.Test.YtoemipeomingaaaDoorQLaw2
namespace Go.Proofs.YtoemipeomingaaaDoor
open Go Go.V

def lookR : RM → Bs → Option Rec
  | [], _ => none
  | p :: m, k => if k = p.1 then some p.2 else lookR m k
theorem lookR_put : ∀ (m : RM) (k : Bs) (r : Rec) (a : Bs), lookR (putM m k r) a = if a = k then some r else lookR m a
  | [], k, r, a => rfl
  | p :: m, k, r, a => by
    rw [putM]
    split
    · rename_i hk
      rw [lookR, lookR, ← hk]
      by_cases h : a = k
      · rw [if_pos h, if_pos h]
      · rw [if_neg h, if_neg h, if_neg h]
    · rename_i hk
      rw [lookR, lookR, lookR_put]
      by_cases h : a = p.1
      · rw [if_pos h, if_pos h, if_neg (fun e => hk (by rw [← e, h]))]
      · rw [if_neg h, if_neg h]
theorem lookR_get : ∀ (m : RM) (k : Bs), getKV (kvR m) k = (lookR m k).map fun r => .agg (rc r)
  | [], _ => rfl
  | p :: m, k => by
    have ih := lookR_get m k
    unfold getKV kvR at ih ⊢
    rw [List.map_cons, idxKV, lookR]
    by_cases h : k = p.1
    · rw [if_pos h, if_pos h]; rfl
    · rw [if_neg h, if_neg h, ← ih]
      cases idxKV (List.map (fun p => (p.1, Value.agg (rc p.2))) m) k <;> rfl
structure MOk (m : RM) : Prop where
  nodup : (m.map (·.1)).Nodup
  key : ∀ p ∈ m, p.1 = p.2.path ∧ okR p.2 = true
theorem putM_mem : ∀ (m : RM) (k : Bs) (r : Rec) (q : Bs × Rec), q ∈ putM m k r → q = (k, r) ∨ (q ∈ m ∧ (q.1 = k → q = (k, r) ∨ ∃ p ∈ m, p.1 = k))
  | [], k, r, q, h => by simp [putM] at h; exact .inl h
  | p :: m, k, r, q, h => by
    rw [putM] at h
    split at h
    · rename_i hk
      rcases List.mem_cons.1 h with e | e
      · exact .inl e
      · exact .inr ⟨List.mem_cons_of_mem _ e, fun _ => .inr ⟨p, List.mem_cons_self, hk.symm⟩⟩
    · rcases List.mem_cons.1 h with e | e
      · exact .inr ⟨by rw [e]; exact List.mem_cons_self, fun hq => .inr ⟨q, by rw [e]; exact List.mem_cons_self, hq⟩⟩
      · rcases putM_mem m k r q e with h1 | ⟨h1, h2⟩
        · exact .inl h1
        · exact .inr ⟨List.mem_cons_of_mem _ h1, fun hq => .inr ⟨q, List.mem_cons_of_mem _ h1, hq⟩⟩
theorem putM_keys : ∀ (m : RM) (k : Bs) (r : Rec), ∀ x, x ∈ (putM m k r).map (·.1) → x = k ∨ x ∈ m.map (·.1) := by
  intro m k r x hx
  obtain ⟨q, hq, rfl⟩ := List.mem_map.1 hx
  rcases putM_mem m k r q hq with h | h
  · exact .inl (by rw [h])
  · exact .inr (List.mem_map.2 ⟨q, h.1, rfl⟩)
theorem putM_nodup : ∀ (m : RM) (k : Bs) (r : Rec), (m.map (·.1)).Nodup → ((putM m k r).map (·.1)).Nodup
  | [], k, r, _ => by simp [putM]
  | p :: m, k, r, h => by
    rw [List.map_cons, List.nodup_cons] at h
    rw [putM]
    split
    · rename_i hk
      rw [List.map_cons, List.nodup_cons, hk]
      exact h
    · rename_i hk
      rw [List.map_cons, List.nodup_cons]
      refine ⟨fun hm => ?_, putM_nodup m k r h.2⟩
      rcases putM_keys m k r _ hm with e | e
      · exact hk e.symm
      · exact h.1 e
theorem MOk.nil : MOk [] := ⟨List.nodup_nil, fun p h => by cases h⟩
theorem MOk.put {m : RM} (h : MOk m) {r : Rec} (hr : okR r = true) : MOk (putM m r.path r) :=
  ⟨putM_nodup m _ r h.nodup, fun p hp => by
    rcases putM_mem m _ r p hp with e | e
    · rw [e]; exact ⟨rfl, hr⟩
    · exact h.key p e.1⟩
theorem MOk.look {m : RM} (h : MOk m) {x : Rec} : x ∈ m.map (·.2) ↔ lookR m x.path = some x := by
  induction m with
  | nil => simp [lookR]
  | cons p m ih =>
    have hk := h.key p List.mem_cons_self
    have hn := h.nodup
    rw [List.map_cons, List.nodup_cons] at hn
    have ih := ih ⟨hn.2, fun q hq => h.key q (List.mem_cons_of_mem _ hq)⟩
    rw [List.map_cons, List.mem_cons, lookR]
    by_cases he : x.path = p.1
    · rw [if_pos he]
      constructor
      · rintro (e | e)
        · rw [e]
        · obtain ⟨q, hq, rfl⟩ := List.mem_map.1 e
          exact absurd (List.mem_map.2 ⟨q, hq, by rw [(h.key q (List.mem_cons_of_mem _ hq)).1, he]⟩) hn.1
      · intro e
        injection e with e
        exact .inl e.symm
    · rw [if_neg he, ← ih]
      constructor
      · rintro (e | e)
        · exact absurd (by rw [e, hk.1]) he
        · exact e
      · exact .inr
theorem MOk.mem {m : RM} (h : MOk m) {p : Bs × Rec} (hp : p ∈ m) : lookR m p.2.path = some p.2 := h.look.1 (List.mem_map.2 ⟨p, hp, rfl⟩)
theorem MOk.once {m : RM} (h : MOk m) : Once (m.map (·.2)) := by
  unfold Once
  have : (m.map (·.2)).map (·.path) = m.map (·.1) := by
    rw [List.map_map]
    exact List.map_congr_left fun p hp => (h.key p hp).1.symm
  rw [this]
  exact h.nodup
theorem once_nodup {l : List Rec} (h : Once l) : l.Nodup := by
  unfold Once List.Nodup at *
  rw [List.pairwise_map] at h
  exact h.imp fun hab e => hab (by rw [e])
/-- the map says what the list says last -/
structure LikeM (m : RM) (l : List Rec) : Prop where
  ok : MOk m
  look : ∀ p, lookR m p = lastO l p
theorem LikeM.perm {m : RM} {l : List Rec} (h : LikeM m l) : (m.map (·.2)).Perm (setS l) :=
  (List.perm_ext_iff_of_nodup (once_nodup h.ok.once) (once_nodup (setS_once l))).2 fun x => by rw [h.ok.look, setS_mem, h.look]
theorem LikeM.len {m : RM} {l : List Rec} (h : LikeM m l) : m.length = (setS l).length := by
  have := h.perm.length_eq
  simpa using this
theorem LikeM.le {m : RM} {l : List Rec} (h : LikeM m l) : m.length ≤ l.length := by
  have := setS_len l
  rw [h.len]
  exact this
theorem LikeM.sort {m : RM} {l l' : List Rec} (h : LikeM m l) (hp : l'.Perm (m.map (·.2))) (hs : l'.Pairwise fun a b => 0 ≤ cmpB b.path a.path) : l' = setS l := by
  have hp := hp.trans h.perm
  have ho : Once l' := by
    have h1 := setS_once l
    unfold Once at h1 ⊢
    exact (hp.map fun x : Rec => x.path).nodup_iff.2 h1
  refine srt_ext ?_ (setS_srt l) fun x => hp.mem_iff
  unfold Srt
  unfold Once List.Nodup at ho
  rw [List.pairwise_map] at ho
  refine List.Pairwise.imp₂ ?_ hs ho
  intro a b h1 h2
  rw [cmpB_swap a.path b.path] at h1
  have : cmpB a.path b.path ≠ 0 := fun e => h2 (cmpB_eq.1 e)
  omega
theorem LikeM.short {m : RM} {l : List Rec} (h : LikeM m l) : ∀ p ∈ m, p.1.length ≤ 100000000 := fun p hp => by
  have h1 := h.ok.key p hp
  have h2 := mayB_len (okR_may h1.2)
  rw [h1.1]
  omega
theorem likeM_nil : LikeM [] [] := ⟨MOk.nil, fun _ => rfl⟩
theorem LikeM.put {m : RM} {l : List Rec} (h : LikeM m l) {r : Rec} (hr : okR r = true) : LikeM (putM m r.path r) (l ++ [r]) :=
  ⟨h.ok.put hr, fun p => by
    rw [lookR_put, lastO_snoc, h.look]
    by_cases hp : p = r.path
    · rw [if_pos hp, if_pos ⟨hr, hp.symm⟩]
    · rw [if_neg hp, if_neg fun e => hp e.2.symm]⟩
theorem LikeM.skip {m : RM} {l : List Rec} (h : LikeM m l) {r : Rec} (hr : okR r = false) : LikeM m (l ++ [r]) :=
  ⟨h.ok, fun p => by rw [lastO_snoc, h.look, if_neg fun e => by rw [hr] at e; cases e.1]⟩
theorem setM_like (l : List Rec) : LikeM (setM l) l := by
  have key : ∀ (l k : List Rec) (m : RM), LikeM m k → LikeM (l.foldl (fun m r => if okR r then putM m r.path r else m) m) (k ++ l) := by
    intro l
    induction l with
    | nil => intro k m h; simpa using h
    | cons r l ih =>
      intro k m h
      rw [List.foldl_cons, show k ++ r :: l = (k ++ [r]) ++ l by simp]
      refine ih _ _ ?_
      cases hr : okR r with
      | true => rw [if_pos rfl]; exact h.put hr
      | false => rw [if_neg (by simp)]; exact h.skip hr
  simpa [setM] using key l [] [] likeM_nil
theorem LikeM.cong {m : RM} {l k : List Rec} (h : LikeM m l) (he : ∀ p, lastO l p = lastO k p) : LikeM m k := ⟨h.ok, fun p => by rw [h.look, he]⟩

/-! ### How many lie within -/
theorem sum_zero : ∀ (l : List Nat), l.sum = 0 ↔ ∀ x ∈ l, x = 0
  | [] => by simp
  | x :: l => by
    rw [List.sum_cons, List.forall_mem_cons, ← sum_zero l]
    omega
theorem LikeM.cnt {m : RM} {l : List Rec} (h : LikeM m l) (a : Bs) : cntN m a = 0 ↔ ∀ x ∈ setS l, x.del = false → a ∉ aboveB x.path := by
  unfold cntN
  rw [sum_zero]
  constructor
  · intro hz x hx hd hm
    rw [← h.perm.mem_iff] at hx
    obtain ⟨p, hp, rfl⟩ := List.mem_map.1 hx
    obtain ⟨i, hi⟩ := List.getElem?_of_mem hp
    have hil : i < m.length := by
      rcases Nat.lt_or_ge i m.length with h1 | h1
      · exact h1
      · rw [List.getElem?_eq_none h1] at hi; cases hi
    have := hz (addsN m a i) (List.mem_map.2 ⟨i, List.mem_range.2 hil, rfl⟩)
    unfold addsN at this
    rw [hi] at this
    dsimp only at this
    rw [if_neg (by simp [hd]), (h.ok.key p hp).1, List.count_eq_zero] at this
    exact this hm
  · intro hz n hn
    obtain ⟨i, _, rfl⟩ := List.mem_map.1 hn
    unfold addsN
    split
    · rename_i p hp
      have hpm := List.mem_of_getElem? hp
      split
      · rfl
      · rename_i hd
        rw [(h.ok.key p hpm).1, List.count_eq_zero]
        exact hz p.2 (h.perm.mem_iff.1 (List.mem_map.2 ⟨p, hpm, rfl⟩)) (by simpa using hd)
    · rfl
theorem LikeM.inside {m : RM} {l : List Rec} (h : LikeM m l) {a : Bs} (ha : a ≠ []) : decide (cntN m a = 0) = !insideS (setS l) a := by
  cases hi : insideS (setS l) a with
  | false =>
    refine decide_eq_true ((h.cnt a).2 fun x hx hd hm => ?_)
    have := insideS_true.2 ⟨x, hx, hd, ((mem_above (okR_may (setS_ok l x hx))).1 hm).2⟩
    rw [hi] at this
    cases this
  | true =>
    refine decide_eq_false fun hc => ?_
    obtain ⟨x, hx, hd, hw⟩ := insideS_true.1 hi
    exact (h.cnt a).1 hc x hx hd ((mem_above (okR_may (setS_ok l x hx))).2 ⟨ha, hw⟩)
/-- is one that is alive, and no directory -/
def noS (o : Option Rec) : Bool := match o with
  | none => false
  | some x => !x.del && x.kind != 2
theorem LikeM.bad {m : RM} {l : List Rec} (h : LikeM m l) {p : Bs} (hp : mayB p = true) : (aboveB p).any (fun a => noS (lookR m a)) = badS (setS l) p := by
  rw [Bool.eq_iff_iff, List.any_eq_true, badS_true]
  constructor
  · rintro ⟨a, ha, hn⟩
    cases hl : lookR m a with
    | none => rw [hl] at hn; cases hn
    | some x =>
      rw [hl] at hn
      rw [h.look] at hl
      have hx := lastO_some hl
      have := (mem_above hp).1 ha
      refine ⟨x, setS_mem.2 (by rw [hx.2.1]; exact hl), by simpa [noS] using hn, by rw [hx.2.1]; exact this.2⟩
  · rintro ⟨x, hx, ⟨h1, h2⟩, hw⟩
    refine ⟨x.path, (mem_above hp).2 ⟨okR_ne (setS_ok l x hx), hw⟩, ?_⟩
    rw [h.look, setS_mem.1 hx]
    simp [noS, h1, h2]
end Go.Proofs.YtoemipeomingaaaDoor
