/- What the laws of the queue say, in plain words. -/
import Derived.Test.YtoemipeomingaaaDoorQLaw1
namespace Go.Proofs.YtoemipeomingaaaDoor
open Go Go.V

theorem insideS_true {s : List Rec} {p : Bs} : insideS s p = true ↔ ∃ x ∈ s, x.del = false ∧ withinB x.path p = true := by
  unfold insideS
  rw [List.any_eq_true]
  simp
theorem badS_true {s : List Rec} {p : Bs} : badS s p = true ↔ ∃ x ∈ s, (x.del = false ∧ x.kind ≠ 2) ∧ withinB p x.path = true := by
  unfold badS
  rw [List.any_eq_true]
  simp
theorem ready_mem {needs own : List Rec} {r : Rec} : r ∈ readyS needs own ↔ r ∈ setS needs ∧ canS r (setS own) = true := by
  unfold readyS
  rw [List.mem_append, List.mem_reverse, List.mem_filter, List.mem_filter]
  cases r.del <;> simp
theorem mem_set {l : List Rec} (h1 : Once l) (ho : okL l) {r : Rec} : r ∈ setS l ↔ r ∈ l := by rw [setS_mem, lastO_of h1 ho, ofS_mem h1]

/-! ### Order -/
theorem not_of {d c : Bool} (h : (!d && c) = true) : d = false := by
  cases d with
  | false => rfl
  | true => cases h
theorem yes_of {d c : Bool} (h : (d && c) = true) : d = true := by
  cases d with
  | false => cases h
  | true => rfl
def InOrder (a b : Rec) : Prop := if a.del then b.del = true ∧ 0 < cmpB a.path b.path else b.del = false → cmpB a.path b.path < 0
theorem ready_order (needs own : List Rec) : (readyS needs own).Pairwise InOrder := by
  unfold readyS
  rw [List.pairwise_append]
  refine ⟨?_, ?_, ?_⟩
  · refine List.Pairwise.imp_of_mem ?_ (List.Pairwise.filter _ (setS_srt needs))
    intro a b ha hb hab
    rw [List.mem_filter] at ha
    have hd : a.del = false := not_of ha.2
    unfold InOrder
    rw [hd]
    exact fun _ => hab
  · rw [List.pairwise_reverse]
    refine List.Pairwise.imp_of_mem ?_ (List.Pairwise.filter _ (setS_srt needs))
    intro a b ha hb hab
    rw [List.mem_filter] at ha hb
    have hda : a.del = true := yes_of ha.2
    have hdb : b.del = true := yes_of hb.2
    unfold InOrder
    rw [if_pos hdb, cmpB_swap a.path b.path]
    exact ⟨hda, by omega⟩
  · intro a ha b hb
    rw [List.mem_filter] at ha
    rw [List.mem_reverse, List.mem_filter] at hb
    have hda : a.del = false := not_of ha.2
    have hdb : b.del = true := yes_of hb.2
    unfold InOrder
    rw [hda, hdb]
    simp

/-! ### What is done -/
def withoutS (l : List Rec) (p : Bs) : List Rec := l.filter fun x => !(x.path == p)
def putS (l : List Rec) (r : Rec) : List Rec := withoutS l r.path ++ [r]
theorem without_mem {l : List Rec} {p : Bs} {x : Rec} : x ∈ withoutS l p ↔ x ∈ l ∧ x.path ≠ p := by
  unfold withoutS
  rw [List.mem_filter]
  simp
theorem without_once {l : List Rec} (p : Bs) (h : Once l) : Once (withoutS l p) := by
  unfold Once List.Nodup at h ⊢
  rw [List.pairwise_map] at h ⊢
  exact h.filter _
theorem without_ok {l : List Rec} (p : Bs) (h : okL l) : okL (withoutS l p) := fun r hr => h r (without_mem.1 hr).1
theorem put_mem {l : List Rec} {r x : Rec} : x ∈ putS l r ↔ (x ∈ l ∧ x.path ≠ r.path) ∨ x = r := by
  unfold putS
  rw [List.mem_append, without_mem]
  simp
theorem put_ok {l : List Rec} {r : Rec} (h : okL l) (hr : okR r = true) : okL (putS l r) := fun x hx => by
  rcases put_mem.1 hx with h1 | h1
  · exact h x h1.1
  · rw [h1]; exact hr
theorem put_once {l : List Rec} (r : Rec) (h : Once l) : Once (putS l r) := by
  have h1 := without_once r.path h
  unfold Once at h1 ⊢
  unfold putS
  rw [List.map_append, List.nodup_append]
  refine ⟨h1, by simp, fun a ha b hb => ?_⟩
  obtain ⟨x, hx, rfl⟩ := List.mem_map.1 ha
  simp at hb
  rw [hb]
  exact (without_mem.1 hx).2
theorem without_last (l : List Rec) (q p : Bs) : lastO (withoutS l q) p = if p = q then none else lastO l p := by
  have key : ∀ (l : List Rec) (o : Option Rec), (withoutS l q).foldl (stepO p) o = if p = q then o else l.foldl (stepO p) o := by
    intro l
    induction l with
    | nil => intro o; simp [withoutS]
    | cons x l ih =>
      intro o
      unfold withoutS at ih ⊢
      rw [List.filter_cons]
      by_cases hx : x.path = q
      · rw [if_neg (by simp [hx]), ih, List.foldl_cons]
        by_cases hp : p = q
        · rw [if_pos hp, if_pos hp]
        · rw [if_neg hp, if_neg hp]
          unfold stepO
          rw [if_neg (fun h : okR x = true ∧ x.path = p => hp (by rw [← h.2, hx]))]
      · rw [if_pos (by simp [hx]), List.foldl_cons, List.foldl_cons, ih]
        by_cases hp : p = q
        · rw [if_pos hp, if_pos hp]
          unfold stepO
          rw [if_neg (fun h : okR x = true ∧ x.path = p => hx (by rw [h.2, hp]))]
        · rw [if_neg hp, if_neg hp]
  exact key l none
theorem without_len {l : List Rec} (h : Once l) {r : Rec} (hr : r ∈ l) : (withoutS l r.path).length + 1 = l.length := by
  induction l with
  | nil => cases hr
  | cons x l ih =>
    have hx := h
    unfold Once at h ih
    rw [List.map_cons, List.nodup_cons] at h
    unfold withoutS at ih ⊢
    rw [List.filter_cons]
    by_cases he : x.path = r.path
    · rw [if_neg (by simp [he]), List.length_cons]
      have : l.filter (fun x => !(x.path == r.path)) = l := by
        rw [List.filter_eq_self]
        intro y hy
        have : y.path ≠ r.path := fun e => h.1 (List.mem_map.2 ⟨y, hy, by rw [e, he]⟩)
        simp [this]
      rw [this]
    · rw [if_pos (by simp [he]), List.length_cons, List.length_cons]
      rcases List.mem_cons.1 hr with e | e
      · exact absurd (by rw [e]) he
      · have := ih h.2 e
        omega
theorem without_le (l : List Rec) (p : Bs) : (withoutS l p).length ≤ l.length := List.length_filter_le _ _
theorem put_len (l : List Rec) (r : Rec) : (putS l r).length ≤ l.length + 1 := by
  unfold putS
  have := without_le l r.path
  simp
  omega

/-! ### The tree -/
def TreeP (l : List Rec) : Prop := ∀ x ∈ l, ∀ y ∈ l, x.del = false → y.del = false → y.kind ≠ 2 → withinB x.path y.path = false
theorem tree_put {want own : List Rec} (ho : okL own) (h1 : Once own) (ht : TreeP own) {r : Rec} (hr : r ∈ readyS want own) : TreeP (putS own r) := by
  intro x hx y hy hxd hyd hyk
  have hc := (ready_mem.1 hr).2
  by_cases hd : r.del = true
  · have hx' : x ∈ own := by
      rcases put_mem.1 hx with h | h
      · exact h.1
      · rw [h, hd] at hxd; cases hxd
    have hy' : y ∈ own := by
      rcases put_mem.1 hy with h | h
      · exact h.1
      · rw [h, hd] at hyd; cases hyd
    exact ht x hx' y hy' hxd hyd hyk
  · have hd : r.del = false := by simpa using hd
    unfold canS at hc
    rw [if_neg (by simp [hd])] at hc
    have hb : badS (setS own) r.path = false := by
      cases hbb : badS (setS own) r.path with
      | false => rfl
      | true => rw [hbb] at hc; simp at hc
    rw [hb] at hc
    simp only [Bool.false_eq_true, if_false, Bool.or_eq_true, beq_iff_eq, Bool.not_eq_true'] at hc
    rcases put_mem.1 hx with ⟨hx', _⟩ | rfl <;> rcases put_mem.1 hy with ⟨hy', _⟩ | rfl
    · exact ht x hx' y hy' hxd hyd hyk
    · rcases hc with hc | hc
      · exact absurd hc hyk
      · cases hw : withinB x.path y.path with
        | false => rfl
        | true =>
          have := insideS_true.2 ⟨x, (mem_set h1 ho).2 hx', hxd, hw⟩
          rw [hc] at this
          cases this
    · cases hw : withinB x.path y.path with
      | false => rfl
      | true =>
        have := badS_true.2 ⟨y, (mem_set h1 ho).2 hy', ⟨hyd, hyk⟩, hw⟩
        rw [hb] at this
        cases this
    · exact within_irrefl _

/-! ### All is done -/
theorem srt_head {l : List Rec} (h : Srt l) (hne : l ≠ []) : ∃ r ∈ l, ∀ x ∈ l, x = r ∨ cmpB r.path x.path < 0 := by
  cases l with
  | nil => exact absurd rfl hne
  | cons r l =>
    unfold Srt at h
    rw [List.pairwise_cons] at h
    refine ⟨r, List.mem_cons_self, fun x hx => ?_⟩
    rcases List.mem_cons.1 hx with e | e
    · exact .inl e
    · exact .inr (h.1 x e)
theorem srt_tail : ∀ {l : List Rec}, Srt l → l ≠ [] → ∃ r ∈ l, ∀ x ∈ l, x = r ∨ cmpB x.path r.path < 0
  | [], _, hne => absurd rfl hne
  | [r], _, _ => ⟨r, List.mem_cons_self, fun x hx => .inl (by simpa using hx)⟩
  | y :: z :: l, h, _ => by
    unfold Srt at h
    rw [List.pairwise_cons] at h
    obtain ⟨r, hr, hx⟩ := srt_tail (l := z :: l) h.2 (by simp)
    refine ⟨r, List.mem_cons_of_mem _ hr, fun x hxx => ?_⟩
    rcases List.mem_cons.1 hxx with e | e
    · rw [e]; exact .inr (h.1 r hr)
    · exact hx x e
/-- nothing stands in its own way -/
def Free (A : List Rec) : Prop := ∀ r ∈ A, r.del = true ∨ r.kind ≠ 2 → ∀ x ∈ A, x.del = false → withinB x.path r.path = false
theorem free_of {A : List Rec} (h : stuckS A = []) : Free A := by
  intro r hr hk x hx hd
  cases hw : withinB x.path r.path with
  | false => rfl
  | true =>
    exfalso
    unfold stuckS at h
    rw [List.filter_eq_nil_iff] at h
    apply h r hr
    have := insideS_true.2 ⟨x, hx, hd, hw⟩
    rw [this]
    rcases hk with h1 | h1
    · simp [h1]
    · simp [h1]
theorem aim_want {want own : List Rec} (hw1 : Once want) (hw : okL want) {r : Rec} (hr : r ∈ want) : r ∈ setS (own ++ want) := by
  rw [setS_mem, lastO_append, lastO_of hw1 hw, (ofS_mem hw1).1 hr]
  rfl
theorem aim_own {want own : List Rec} (h1 : Once own) (ho : okL own) {r : Rec} (hr : r ∈ own) : r ∈ setS (own ++ want) ∨ ∃ y ∈ want, y.path = r.path := by
  cases hl : lastO want r.path with
  | none =>
    left
    rw [setS_mem, lastO_append, hl, lastO_of h1 ho, (ofS_mem h1).1 hr]
    rfl
  | some y =>
    have := lastO_some hl
    exact .inr ⟨y, this.1, this.2.1⟩
theorem ready_some {want own : List Rec} (hw1 : Once want) (hw : okL want) (h1 : Once own) (ho : okL own) (hf : Free (setS (own ++ want))) (hne : want ≠ []) : readyS want own ≠ [] := by
  suffices h : ∃ r, r ∈ readyS want own by
    obtain ⟨r, hr⟩ := h
    intro e
    rw [e] at hr
    cases hr
  by_cases hd : (setS want).filter (fun r => r.del) = []
  · have hall : ∀ r ∈ want, r.del = false := fun r hr => by
      rw [List.filter_eq_nil_iff] at hd
      simpa using hd r ((mem_set hw1 hw).2 hr)
    have hsn : setS want ≠ [] := by
      intro e
      cases want with
      | nil => exact hne rfl
      | cons x l =>
        have := (mem_set hw1 hw).2 (List.mem_cons_self : x ∈ x :: l)
        rw [e] at this
        cases this
    obtain ⟨r, hr, hfirst⟩ := srt_head (setS_srt want) hsn
    have hrw := (mem_set hw1 hw).1 hr
    have hrd := hall r hrw
    have hrA := aim_want (own := own) hw1 hw hrw
    refine ⟨r, ready_mem.2 ⟨hr, ?_⟩⟩
    unfold canS
    rw [if_neg (by simp [hrd])]
    have hb : badS (setS own) r.path = false := by
      cases hb : badS (setS own) r.path with
      | false => rfl
      | true =>
        exfalso
        obtain ⟨x, hx, ⟨hxd, hxk⟩, hxw⟩ := badS_true.1 hb
        have hx := (mem_set h1 ho).1 hx
        rcases aim_own (want := want) h1 ho hx with hA | ⟨y, hy, hyp⟩
        · have := hf x hA (.inr hxk) r hrA hrd
          rw [hxw] at this
          cases this
        · rw [← hyp] at hxw
          have hyn := okR_ne (hw y hy)
          have hlt := within_lt hyn hxw
          rcases hfirst y ((mem_set hw1 hw).2 hy) with e | e
          · rw [e] at hlt; exact cmp_irrefl _ hlt
          · exact cmp_asymm hlt e
    rw [hb, if_neg (by simp)]
    by_cases hk : r.kind = 2
    · simp [hk]
    · have : insideS (setS own) r.path = false := by
        cases hi : insideS (setS own) r.path with
        | false => rfl
        | true =>
          exfalso
          obtain ⟨x, hx, hxd, hxw⟩ := insideS_true.1 hi
          have hx := (mem_set h1 ho).1 hx
          rcases aim_own (want := want) h1 ho hx with hA | ⟨y, hy, hyp⟩
          · have := hf r hrA (.inr hk) x hA hxd
            rw [hxw] at this
            cases this
          · have := hf r hrA (.inr hk) y (aim_want hw1 hw hy) (hall y hy)
            rw [hyp, hxw] at this
            cases this
      rw [this]
      simp
  · obtain ⟨r, hr, hlast⟩ := srt_tail (List.Pairwise.filter _ (setS_srt want)) hd
    rw [List.mem_filter] at hr
    have hrw := (mem_set hw1 hw).1 hr.1
    have hrA := aim_want (own := own) hw1 hw hrw
    have hrd : r.del = true := hr.2
    refine ⟨r, ready_mem.2 ⟨hr.1, ?_⟩⟩
    unfold canS
    rw [if_pos hrd]
    cases ho2 : ofS (setS own) r.path with
    | none => rfl
    | some old =>
      have : insideS (setS own) r.path = false := by
        cases hi : insideS (setS own) r.path with
        | false => rfl
        | true =>
          exfalso
          obtain ⟨x, hx, hxd, hxw⟩ := insideS_true.1 hi
          have hx := (mem_set h1 ho).1 hx
          rcases aim_own (want := want) h1 ho hx with hA | ⟨y, hy, hyp⟩
          · have := hf r hrA (.inl hrd) x hA hxd
            rw [hxw] at this
            cases this
          · rw [← hyp] at hxw
            have hlt := within_lt (okR_ne (hw r hrw)) hxw
            cases hyd : y.del with
            | false =>
              have := hf r hrA (.inl hrd) y (aim_want hw1 hw hy) hyd
              rw [hxw] at this
              cases this
            | true =>
              rcases hlast y (List.mem_filter.2 ⟨(mem_set hw1 hw).2 hy, hyd⟩) with e | e
              · rw [e] at hlt; exact cmp_irrefl _ hlt
              · exact cmp_asymm hlt e
      show (old.del || !insideS (setS own) r.path) = true
      rw [this]
      simp
theorem aim_step {want own : List Rec} (hw1 : Once want) (hw : okL want) (_h1 : Once own) (_ho : okL own) {r : Rec} (hr : r ∈ want) : setS (putS own r ++ withoutS want r.path) = setS (own ++ want) := by
  refine setS_eq fun p => ?_
  rw [lastO_append, lastO_append, without_last]
  unfold putS
  rw [lastO_snoc, without_last]
  by_cases hp : p = r.path
  · subst hp
    rw [if_pos rfl, if_pos ⟨hw r hr, rfl⟩, lastO_of hw1 hw, (ofS_mem hw1).1 hr]
    rfl
  · rw [if_neg hp, if_neg hp, if_neg fun h => hp h.2.symm]
theorem aimS_none_own (l : List Rec) : aimS l [] = setS l := by unfold aimS; rw [List.nil_append]
theorem aimS_none_want (l : List Rec) : aimS [] l = setS l := by unfold aimS; rw [List.append_nil]
end Go.Proofs.YtoemipeomingaaaDoor
