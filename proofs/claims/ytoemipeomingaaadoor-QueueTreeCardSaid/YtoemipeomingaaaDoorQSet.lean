/- Contracts: set, above, the counting closure, the comparing closure. -/
import Derived.Test.YtoemipeomingaaaDoorQFew
namespace Go.Proofs.YtoemipeomingaaaDoor
open Go Go.V

abbrev RM := List (Bs × Rec)
def kvR (m : RM) : KV := m.map fun p => (p.1, .agg (rc p.2))
def putM : RM → Bs → Rec → RM
  | [], k, v => [(k, v)]
  | p :: r, k, v => if k = p.1 then (k, v) :: r else p :: putM r k v
theorem kvR_put : ∀ (m : RM) (k : Bs) (r : Rec), putKV (kvR m) k (.agg (rc r)) = kvR (putM m k r)
  | [], _, _ => rfl
  | p :: m, k, r => by
    have ih := kvR_put m k r
    unfold kvR at ih ⊢
    rw [List.map_cons, putKV, putM]
    split
    · rfl
    · rw [ih]; rfl
def okR (r : Rec) : Bool := mayB r.path && (decide (1 ≤ r.kind) && decide (r.kind ≤ 3))
def setM (l : List Rec) : RM := l.foldl (fun m r => if okR r then putM m r.path r else m) []
theorem setM_snoc (l : List Rec) (r : Rec) : setM (l ++ [r]) = if okR r then putM (setM l) r.path r else setM l := by simp [setM]
theorem rc_path (r : Rec) : (rc r)[0]? = some (sv r.path) := rfl
theorem rc_kind (r : Rec) : (rc r)[1]? = some (.int .i64 r.kind) := rfl
theorem rc_del (r : Rec) : (rc r)[2]? = some (.bool r.del) := rfl
theorem rc_dev (r : Rec) : (rc r)[5]? = some (.int .i64 r.dev) := rfl
theorem _root_.Go.V.Blk.rcell {H : Heap} {g : Nat} {t : TypeId} {r : Rec} (h : Blk H g t (rc r)) {i : Nat} {v : Value} (hv : (rc r)[i]? = some v) : cellAt H (Addr.add ⟨g, 0, none⟩ i) = some v := by
  rw [h.cellA, Nat.zero_add]; exact hv
theorem _root_.Go.V.RdN.rcell {H : Heap} {ad : Addr} {r : Rec} (h : RdN H ad 27 (rc r)) {i : Nat} (hi : i < 27) {v : Value} (hv : (rc r)[i]? = some v) : cellAt H (Addr.add ad i) = some v := by
  rw [h.2 i hi]; exact hv
/-- all texts are short -/
def Short (l : List Rec) : Prop := ∀ r ∈ l, r.path.length ≤ 100000000

theorem set_con (l : List Rec) (hsh : Short l) (a : Option Addr) (n c : Nat) (H0 : Heap) (hs : SlR H0 a n l) (hn : n ≤ 1000000) :
    CallsH Tryd.prog 28 ⟨[.slice a n c]⟩ H0 fun r H1 => ∃ b, r = .map (some b) ∧ H0.size ≤ b ∧ Mp H1 b (kvR (setM l)) ∧ Ext H0 H1 := by
  have hln := hs.1
  refine queue_set.ok ?_
  refine (sem_makeMap 47).mono ?_
  rintro _ H1 ⟨b, rfl, hb, e1, m1⟩
  refine ⟨_, rfl, ?_⟩
  refine ⟨LI fun i H => ∃ k : Nat, i = k ∧ k ≤ n ∧ Ext H0 H ∧ Mp H b (kvR (setM (l.take k))), LM fun i => ((n : Int) - i).toNat, ⟨⟨_, rfl⟩, 0, rfl, by omega, e1, m1⟩, ?_⟩
  rintro i H2 ⟨k, rfl, hk, e2, m2⟩
  refine ⟨fun h => ?_, fun h => ?_⟩
  · have hkn : k < n := by have := of_decide_eq_true h; omega
    have hkl : k < l.length := by omega
    have hg : l[k]? = some l[k] := List.getElem?_eq_getElem hkl
    have hsk : setM (l.take (k + 1)) = if okR l[k] then putM (setM (l.take k)) l[k].path l[k] else setM (l.take k) := by
      rw [List.take_succ_eq_append_getElem hkl, setM_snoc]
    obtain ⟨ad, ha, hr⟩ := hs.2 (by omega)
    refine ⟨ad, ⟨ha, by omega, by omega⟩, rc l[k], by rw [toNat_cast]; exact (hr k _ hg).ext e2, ?_⟩
    refine st_new fun g H3 hg3 e3 b3 => ?_
    refine st_wr b3 (rc_size _) rfl (rc_one _) fun H4 h4 b4 => ?_
    have hgb : b ≠ g := by have := m2.lt; omega
    have hg0 : H0.size ≤ g := by have := e2.size; omega
    have m4 : Mp H4 b (kvR (setM (l.take k))) := by rw [h4]; exact (m2.ext e3).upd hgb
    have e4 : Ext H0 H4 := by rw [h4]; exact (e2.trans e3).upd hg0
    refine ⟨l[k].path, b4.rcell (rc_path _), (May_con _ (hsh _ (List.getElem_mem hkl)) _).mono ?_⟩
    rintro _ H5 ⟨rfl, e5⟩
    have m5 := m4.ext e5
    have b5 := b4.ext e5
    have e5 := e4.trans e5
    have hw : IntKind.wrap .i64 ((k : Int) + 1) = ((k + 1 : Nat) : Int) := by rw [wrap_i64 (by omega)]; omega
    have hok : (cond (cond (mayB l[k].path) (decide (l[k].kind ≥ 1)) false) (decide (l[k].kind ≤ 3)) false) = okR l[k] := by
      unfold okR
      cases mayB l[k].path with
      | false => rfl
      | true =>
        show (cond (decide (1 ≤ l[k].kind)) (decide (l[k].kind ≤ 3)) false) = _
        cases decide (1 ≤ l[k].kind) <;> rfl
    refine ⟨_, rfl, l[k].kind, fun _ => b5.rcell (rc_kind _), l[k].kind, fun _ => b5.rcell (rc_kind _), ?_⟩
    rw [hok, hw]
    refine ⟨fun h6 => ?_, fun h6 => ?_⟩
    · refine ⟨l[k].path, b5.rcell (rc_path _), st_rd b5 (rc_size _) ?_⟩
      refine (sem_mapUpdate (P := Tryd.prog) (t := 47) (kt := 9) (et := 35) (descOf_und tab_ok rfl (by simp)) (descOf_und tab_ok rfl (by simp)) m5 l[k].path (.agg (rc l[k]))).mono ?_
      rintro _ H6 ⟨h6', m6⟩
      refine ⟨⟨_, rfl⟩, ⟨k + 1, rfl, by omega, by rw [h6']; exact e5.setO hb, ?_⟩, ?_⟩
      · rw [hsk, h6, if_pos rfl, ← kvR_put]
        exact m6
      · show ((n : Int) - ((k + 1 : Nat) : Int)).toNat < ((n : Int) - (k : Int)).toNat
        omega
    · refine ⟨⟨_, rfl⟩, ⟨k + 1, rfl, by omega, e5, ?_⟩, ?_⟩
      · rw [hsk, h6]
        exact m5
      · show ((n : Int) - ((k + 1 : Nat) : Int)).toNat < ((n : Int) - (k : Int)).toNat
        omega
  · have : k = n := by have := of_decide_eq_false h; omega
    subst this
    rw [List.take_of_length_le (by omega)] at m2
    exact ⟨b, rfl, hb, m2, e2⟩

/-! ### Ancestors -/
def aboveF : Nat → Bs → List Bs
  | 0, _ => []
  | n + 1, q => if q = [] then [] else q :: aboveF n (parentB q)
def aboveB (p : Bs) : List Bs := aboveF (parentB p).length (parentB p)
theorem aheadB_lt {s : Bs} (h : aheadB s ≠ []) : (aheadB s).length < s.length := by
  unfold aheadB at h ⊢
  cases s with
  | nil => simp at h
  | cons c r => simp; omega
theorem parentB_lt {s : Bs} (h : parentB s ≠ []) : (parentB s).length < s.length := by
  unfold parentB at h ⊢
  split
  · rename_i hm
    rw [if_pos hm] at h
    exact aheadB_lt h
  · rename_i hm
    rw [if_neg hm] at h
    exact absurd rfl h
theorem aboveF_nil : ∀ n, aboveF n [] = []
  | 0 => rfl
  | n + 1 => by rw [aboveF, if_pos rfl]
theorem aboveF_enough : ∀ (n : Nat) (q : Bs), q.length ≤ n → aboveF n q = aboveF q.length q
  | 0, q, h => by
    have : q = [] := List.eq_nil_of_length_eq_zero (by omega)
    subst this
    rfl
  | n + 1, q, h => by
    cases q with
    | nil => rw [aboveF_nil, aboveF_nil]
    | cons c r =>
      rw [aboveF, if_neg (by simp)]
      show _ = aboveF (r.length + 1) (c :: r)
      rw [aboveF, if_neg (by simp)]
      congr 1
      by_cases hp : parentB (c :: r) = []
      · rw [hp, aboveF_nil, aboveF_nil]
      · have := parentB_lt hp
        simp only [List.length_cons] at this h
        rw [aboveF_enough n _ (by omega), aboveF_enough r.length _ (by omega)]
theorem aboveF_step {q : Bs} (h : q ≠ []) : aboveF q.length q = q :: aboveB q := by
  cases q with
  | nil => exact absurd rfl h
  | cons c r =>
    show aboveF (r.length + 1) (c :: r) = _
    rw [aboveF, if_neg h]
    unfold aboveB
    congr 1
    by_cases hp : parentB (c :: r) = []
    · rw [hp, aboveF_nil, aboveF_nil]
    · have := parentB_lt hp
      simp only [List.length_cons] at this
      rw [aboveF_enough r.length _ (by omega)]
theorem aboveB_len (_p : Bs) : ∀ n q, q.length ≤ n → (aboveF q.length q).length ≤ n := by
  intro n
  induction n with
  | zero =>
    intro q h
    have : q = [] := List.eq_nil_of_length_eq_zero (by omega)
    subst this
    simp [aboveF]
  | succ n ih =>
    intro q h
    by_cases hq : q = []
    · subst hq; simp [aboveF]
    · rw [aboveF_step hq, List.length_cons]
      unfold aboveB
      by_cases hp : parentB q = []
      · rw [hp]; simp [aboveF]
      · have := parentB_lt hp
        have := ih (parentB q) (by omega)
        omega
theorem parentB_le (p : Bs) : (parentB p).length ≤ 111 := by
  unfold parentB
  split
  · rename_i h
    unfold mayB at h
    simp at h
    omega
  · simp
def LSS (f : Option Addr → Nat → Nat → Bs → Heap → Prop) : List Value → Heap → Prop
  | [.slice a n c, .string ⟨⟨s⟩⟩], H => f a n c s H
  | _, _ => False
def LSSM (f : Bs → Nat) : List Value → Heap → Nat
  | [.slice _ _ _, .string ⟨⟨s⟩⟩], _ => f s
  | _, _ => 0
theorem above_con (p : Bs) (hp : p.length ≤ 100000000) (H0 : Heap) : CallsH Tryd.prog 43 ⟨[sv p]⟩ H0 fun r H1 =>
    ∃ (a : Option Addr) (c : Nat), r = .slice a (aboveB p).length c ∧ SlS H1 a (aboveB p).length (aboveB p) ∧ Ext H0 H1 := by
  have hpl := parentB_le p
  have hal := aboveB_len p 111 (parentB p) hpl
  refine queue_above.ok ?_
  refine (Parent_con p hp H0).mono ?_
  rintro _ H1 ⟨rfl, e1⟩
  refine ⟨_, _, rfl, ?_⟩
  refine ⟨LSS fun a n c q H => ∃ l : List Bs, aboveB p = l ++ aboveF q.length q ∧ q.length ≤ 111 ∧ Ext H0 H ∧ OwnH H H0.size 9 1 (.slice a n c) n (strs l), LSSM fun q => q.length + 1,
    ⟨⟨_, _, _, rfl⟩, ⟨_, rfl⟩, [], rfl, hpl, e1, by simpa [strs] using OwnH.nil H1 H0.size 9 1⟩, ?_⟩
  rintro a n c q H2 ⟨l, hl, hq, e2, o2⟩
  have hn : n = l.length := by have := o2.1; simp [strs] at this; omega
  have hll : l.length ≤ 111 := by
    have : (aboveB p).length ≤ 111 := hal
    rw [hl, List.length_append] at this
    omega
  refine ⟨fun h => ?_, fun h => ?_⟩
  · have hq0 : q ≠ [] := by simpa using h
    refine app_str o2 (by have := e2.size; omega) (by omega) q ?_
    intro a3 c3 H3 o3 g3
    have e3 := GrownH.of_ext e2 g3 (fun k hk => (o2.base k hk).1)
    refine (Parent_con q (by omega) H3).mono ?_
    rintro _ H4 ⟨rfl, e4⟩
    have hple := parentB_le q
    refine ⟨_, _, rfl, ⟨_, _, _, rfl⟩, ⟨_, rfl⟩, ⟨l ++ [q], ?_, hple, e3.trans e4, o3.ext e4⟩, ?_⟩
    · rw [hl, aboveF_step hq0]
      unfold aboveB
      simp
    · show (parentB q).length + 1 < q.length + 1
      by_cases hpq : parentB q = []
      · rw [hpq]
        have := List.length_pos_iff.2 hq0
        simp
        omega
      · have := parentB_lt hpq
        omega
  · have hq0 : q = [] := by simpa using h
    subst hq0
    rw [show aboveF ([] : Bs).length [] = [] from rfl, List.append_nil] at hl
    rw [← hl] at o2 hn
    obtain ⟨a4, c4, he, hsl⟩ := o2.sls
    injection he with he1 he2 he3
    subst he1
    exact ⟨a, c, by rw [hn], by rw [hn] at hsl; exact hsl, e2⟩
end Go.Proofs.YtoemipeomingaaaDoor
