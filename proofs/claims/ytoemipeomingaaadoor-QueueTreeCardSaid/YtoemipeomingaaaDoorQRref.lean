/- Contracts of the document's Of, inside, Can, Ready, Aim, Blocked. -/
import Derived.Test.YtoemipeomingaaaDoorQRset
namespace Go.Proofs.YtoemipeomingaaaDoor
open Go Go.V

theorem ofS_take : ∀ (l : List Rec) (p : Bs) (k : Nat) (x : Rec), (∀ r ∈ l.take k, r.path ≠ p) → l[k]? = some x → x.path = p → ofS l p = some x
  | [], p, k, x, _, h, _ => by simp at h
  | y :: l, p, 0, x, _, h, hx => by
    have : y = x := by simpa using h
    subst this
    rw [ofS, if_pos hx]
  | y :: l, p, k + 1, x, h1, h, hx => by
    rw [ofS, if_neg (h1 y (by simp))]
    exact ofS_take l p k x (fun r hr => h1 r (by rw [List.take_succ_cons]; exact List.mem_cons_of_mem _ hr)) (by simpa using h) hx
theorem rOf_con (l : List Rec) (p : Bs) (a : Option Addr) (n c : Nat) (H0 : Heap) (hs : SlR H0 a n l) (hn : n ≤ 1000000) :
    CallsH Tryd.prog 49 ⟨[.slice a n c, sv p]⟩ H0 fun r H1 => r = .tuple ⟨[.agg (rc ((ofS l p).getD r0)), .bool (ofS l p).isSome]⟩ ∧ Ext H0 H1 := by
  have hln := hs.1
  refine caravanref20_Of.ok ?_
  refine st_new fun g H1 hg e1 b1 => ?_
  refine ⟨LI fun i H => ∃ k : Nat, i = k ∧ k ≤ n ∧ H = H1 ∧ ∀ r ∈ l.take k, r.path ≠ p, LM fun i => ((n : Int) - i).toNat, ⟨⟨_, rfl⟩, 0, rfl, by omega, rfl, by simp⟩, ?_⟩
  rintro i H2 ⟨k, rfl, hk, rfl, hno⟩
  refine ⟨fun h => ?_, fun h => ?_⟩
  · have hk' : k < l.length := by have := of_decide_eq_true h; omega
    obtain ⟨ad, ha, hrd⟩ := hs.2 (by omega)
    have hgk : l[k]? = some l[k] := List.getElem?_eq_getElem hk'
    have hr := (hrd k _ hgk).ext e1
    rw [toNat_cast]
    refine ⟨ad, ⟨ha, by omega, by omega⟩, l[k].path, hr.rcell (by omega) (rc_path _), fun h2 => ?_, fun h2 => ⟨⟨_, rfl⟩, ⟨k + 1, ?_, by omega, rfl, fun r hr => ?_⟩, ?_⟩⟩
    · have h2 : l[k].path = p := by simpa using h2
      refine ⟨ad, ⟨ha, by omega, by omega⟩, _, hr, ?_⟩
      refine st_wr b1 (rc_size _) rfl (rc_one _) fun H3 h3 b3 => ?_
      refine st_rd b3 (rc_size _) ?_
      rw [ofS_take l p k l[k] hno hgk h2]
      exact ⟨rfl, by rw [h3]; exact e1.upd hg⟩
    · rw [wrap_i64 (by omega)]; omega
    · rw [List.take_succ_eq_append_getElem hk'] at hr
      rcases List.mem_append.1 hr with h | h
      · exact hno r h
      · have : r = l[k] := by simpa using h
        rw [this]
        simpa using h2
    · show ((n : Int) - IntKind.wrap .i64 ((k : Int) + 1)).toNat < ((n : Int) - (k : Int)).toNat
      rw [wrap_i64 (by omega)]
      omega
  · have : k = n := by have := of_decide_eq_false h; omega
    subst this
    rw [List.take_of_length_le (by omega)] at hno
    refine ⟨_, build_rec0, ?_⟩
    refine st_wr b1 (rc_size _) rfl (rc_one _) fun H3 h3 b3 => ?_
    refine st_rd b3 (rc_size _) ?_
    rw [ofS_none.2 hno]
    exact ⟨rfl, by rw [h3]; exact e1.upd hg⟩
theorem rInside_con (l : List Rec) (hsh : Short l) (p : Bs) (hp : p.length ≤ 100000000) (a : Option Addr) (n c : Nat) (H0 : Heap) (hs : SlR H0 a n l) (hn : n ≤ 1000000) :
    CallsH Tryd.prog 37 ⟨[.slice a n c, sv p]⟩ H0 fun r H1 => r = .bool (insideS l p) ∧ Ext H0 H1 := by
  have hln := hs.1
  refine caravanref20_inside.ok ?_
  refine ⟨LI fun i H => ∃ k : Nat, i = k ∧ k ≤ n ∧ Ext H0 H ∧ insideS (l.take k) p = false, LM fun i => ((n : Int) - i).toNat, ⟨⟨_, rfl⟩, 0, rfl, by omega, Ext.refl _, rfl⟩, ?_⟩
  rintro i H1 ⟨k, rfl, hk, e1, hno⟩
  refine ⟨fun h => ?_, fun h => ?_⟩
  · have hk' : k < l.length := by have := of_decide_eq_true h; omega
    obtain ⟨ad, ha, hrd⟩ := hs.2 (by omega)
    have hgk : l[k]? = some l[k] := List.getElem?_eq_getElem hk'
    have hr := (hrd k _ hgk).ext e1
    rw [toNat_cast]
    have hw : IntKind.wrap .i64 ((k : Int) + 1) = ((k + 1 : Nat) : Int) := by rw [wrap_i64 (by omega)]; omega
    rw [hw]
    have hdec : ((n : Int) - ((k + 1 : Nat) : Int)).toNat < ((n : Int) - (k : Int)).toNat := by omega
    have hstep : insideS (l.take (k + 1)) p = (!l[k].del && withinB l[k].path p) := by
      unfold insideS at hno ⊢
      rw [List.take_succ_eq_append_getElem hk', List.any_append, hno]
      simp
    refine ⟨ad, ⟨ha, by omega, by omega⟩, l[k].del, hr.rcell (by omega) (rc_del _), ad, fun _ => ⟨ha, by omega, by omega⟩, l[k].path, fun _ => hr.rcell (by omega) (rc_path _), fun h2 => ?_, fun h2 => ?_⟩
    · refine (rWithin_con _ p (hsh _ (List.getElem_mem hk')) hp H1).mono ?_
      rintro _ H2 ⟨rfl, e2⟩
      refine ⟨_, rfl, fun h3 => ⟨?_, e1.trans e2⟩, fun h3 => ⟨⟨_, rfl⟩, ⟨k + 1, rfl, by omega, e1.trans e2, by rw [hstep, h2, h3]; rfl⟩, hdec⟩⟩
      have : insideS l p = true := insideS_true.2 ⟨_, List.getElem_mem hk', by simpa using h2, h3⟩
      rw [this]
    · exact ⟨⟨_, rfl⟩, ⟨k + 1, rfl, by omega, e1, by rw [hstep, h2]; rfl⟩, hdec⟩
  · have : k = n := by have := of_decide_eq_false h; omega
    subst this
    rw [List.take_of_length_le (by omega)] at hno
    rw [hno]
    exact ⟨rfl, e1⟩
theorem rCan_con (r : Rec) (hr : r.path.length ≤ 100000000) (l : List Rec) (hsh : Short l) (a : Option Addr) (n c : Nat) (H0 : Heap) (hs : SlR H0 a n l) (hn : n ≤ 1000000) :
    CallsH Tryd.prog 34 ⟨[.agg (rc r), .slice a n c]⟩ H0 fun v H1 => v = .bool (canS r l) ∧ Ext H0 H1 := by
  have hln := hs.1
  refine caravanref20_Can.ok ?_
  refine st_new fun g H1 hg e1 b1 => ?_
  refine ⟨r.del, b1.rcell (rc_del _), fun hd => ?_, fun hd => ?_⟩
  · refine ⟨r.path, b1.rcell (rc_path _), ?_⟩
    refine (rOf_con l r.path a n c H1 (hs.ext e1) hn).mono ?_
    rintro _ H2 ⟨rfl, e2⟩
    refine ⟨_, _, rfl, ?_⟩
    refine st_rec _ fun g3 H3 hg3 e3 b3 => ?_
    refine ⟨_, fun _ => b3.rcell (rc_del _), r.path, fun _ => ((b1.ext e2).ext e3).rcell (rc_path _), fun h => ⟨?_, (e1.trans e2).trans e3⟩, fun h => ?_⟩
    · unfold canS
      rw [if_pos hd]
      cases ho : ofS l r.path with
      | none => rfl
      | some old =>
        rw [ho] at h
        have : old.del = true := h
        show Value.bool true = Value.bool (old.del || _)
        rw [this]
        rfl
    · refine (rInside_con l hsh r.path hr a n c H3 (hs.ext ((e1.trans e2).trans e3)) hn).mono ?_
      rintro _ H4 ⟨rfl, e4⟩
      refine ⟨_, rfl, ?_, ((e1.trans e2).trans e3).trans e4⟩
      unfold canS
      rw [if_pos hd]
      cases ho : ofS l r.path with
      | none => rw [ho] at h; cases h
      | some old =>
        rw [ho] at h
        have : old.del = false := h
        show _ = Value.bool (old.del || _)
        rw [this]
        rfl
  · refine ⟨LI fun i H => ∃ k : Nat, i = k ∧ k ≤ n ∧ Ext H1 H ∧ badS (l.take k) r.path = false, LM fun i => ((n : Int) - i).toNat, ⟨⟨_, rfl⟩, 0, rfl, by omega, Ext.refl _, rfl⟩, ?_⟩
    rintro i H2 ⟨k, rfl, hk, e2, hno⟩
    refine ⟨fun h => ?_, fun h => ?_⟩
    · have hk' : k < l.length := by have := of_decide_eq_true h; omega
      obtain ⟨ad, ha, hrd⟩ := hs.2 (by omega)
      have hgk : l[k]? = some l[k] := List.getElem?_eq_getElem hk'
      have hrk := (hrd k _ hgk).ext (e1.trans e2)
      rw [toNat_cast]
      have hw : IntKind.wrap .i64 ((k : Int) + 1) = ((k + 1 : Nat) : Int) := by rw [wrap_i64 (by omega)]; omega
      rw [hw]
      have hdec : ((n : Int) - ((k + 1 : Nat) : Int)).toNat < ((n : Int) - (k : Int)).toNat := by omega
      have hstep : badS (l.take (k + 1)) r.path = ((!l[k].del && l[k].kind != 2) && withinB r.path l[k].path) := by
        unfold badS at hno ⊢
        rw [List.take_succ_eq_append_getElem hk', List.any_append, hno]
        simp
      refine ⟨ad, ⟨ha, by omega, by omega⟩, _, hrk, ?_⟩
      refine st_rec _ fun g3 H3 hg3 e3 b3 => ?_
      have hcc : (cond (!l[k].del) (l[k].kind != (2 : Int)) false) = (!l[k].del && l[k].kind != 2) := by cases l[k].del <;> rfl
      refine ⟨l[k].del, b3.rcell (rc_del _), l[k].kind, fun _ => b3.rcell (rc_kind _), r.path, fun _ => (b1.ext (e2.trans e3)).rcell (rc_path _), l[k].path, fun _ => b3.rcell (rc_path _), ?_⟩
      rw [hcc]
      refine ⟨fun h4 => ?_, fun h4 => ?_⟩
      · refine (rWithin_con r.path l[k].path hr (hsh _ (List.getElem_mem hk')) H3).mono ?_
        rintro _ H4 ⟨rfl, e4⟩
        refine ⟨_, rfl, fun h5 => ⟨?_, ((e1.trans e2).trans e3).trans e4⟩, fun h5 => ⟨⟨_, rfl⟩, ⟨k + 1, rfl, by omega, (e2.trans e3).trans e4, by rw [hstep, h4, h5]; rfl⟩, hdec⟩⟩
        have : badS l r.path = true := badS_true.2 ⟨_, List.getElem_mem hk', by simpa using h4, h5⟩
        unfold canS
        rw [hd, this]
        rfl
      · exact ⟨⟨_, rfl⟩, ⟨k + 1, rfl, by omega, e2.trans e3, by rw [hstep, h4]; rfl⟩, hdec⟩
    · have : k = n := by have := of_decide_eq_false h; omega
      subst this
      rw [List.take_of_length_le (by omega)] at hno
      refine ⟨r.kind, (b1.ext e2).rcell (rc_kind _), r.path, fun _ => (b1.ext e2).rcell (rc_path _), fun h3 => ⟨?_, e1.trans e2⟩, fun h3 => ?_⟩
      · unfold canS
        rw [hd, hno, h3]
        rfl
      · refine (rInside_con l hsh r.path hr a _ c H2 (hs.ext (e1.trans e2)) hn).mono ?_
        rintro _ H3 ⟨rfl, e3⟩
        refine ⟨_, rfl, ?_, (e1.trans e2).trans e3⟩
        unfold canS
        rw [hd, hno, h3]
        rfl
theorem ref_aim (needs own : List Rec) : setS (setS own ++ setS needs) = aimS needs own := setS_eq fun p => by rw [lastO_append, lastO_append, setS_last, setS_last]
theorem rAim_con {an ao : Option Addr} {nn no cn co : Nat} {needs own : List Rec} (hs1 : Short needs) (hs2 : Short own) (hn1 : nn ≤ 500000) (hn2 : no ≤ 500000) (H0 : Heap) (h1 : SlR H0 an nn needs) (h2 : SlR H0 ao no own) :
    CallsH Tryd.prog 17 ⟨[.slice an nn cn, .slice ao no co]⟩ H0 fun r H1 => ∃ a c, r = .slice a (aimS needs own).length c ∧ SlR H1 a (aimS needs own).length (aimS needs own) ∧ Ext H0 H1 := by
  have hln := h1.1
  have hlo := h2.1
  have hl1 := setS_len needs
  have hl2 := setS_len own
  refine caravanref20_Aim.ok ?_
  refine (rSet_con own hs2 ao no co H0 h2 (by omega)).mono ?_
  rintro _ H1 ⟨a1, c1, rfl, o1, e1⟩
  refine ⟨_, _, _, rfl, ?_⟩
  refine (sem_append (P := Tryd.prog) tab_ok (t := 22) (ty := 22) (e := 35) rfl rfl rfl (by decide) (OwnH.nil H1 H1.size 35 27) (Nat.le_refl _) o1.1 o1.flat.1 o1.flat.2 (recs_one _) (by simp [maxLen]; omega) (by show (0 + (setS own).length) * 184 ≤ _; omega)).mono ?_
  rintro v2 H2 ⟨o2, g2, _⟩
  rw [List.nil_append] at o2
  obtain ⟨a2, c2, rfl, _⟩ := o2.slr
  have e2 : Ext H1 H2 := GrownH.of_ext (Ext.refl _) g2 (fun k hk => by cases hk)
  refine ⟨_, _, _, rfl, ?_⟩
  refine (rSet_con needs hs1 an nn cn H2 (h1.ext (e1.trans e2)) (by omega)).mono ?_
  rintro _ H3 ⟨a3, c3, rfl, o3, e3⟩
  refine ⟨_, _, _, rfl, ?_⟩
  refine (sem_append (P := Tryd.prog) tab_ok (t := 22) (ty := 22) (e := 35) rfl rfl rfl (by decide) (o2.ext e3) (e2.trans e3).size o3.1 o3.flat.1 o3.flat.2 (recs_one _) (by simp [maxLen]; omega) (by show (0 + (setS own).length + (setS needs).length) * 184 ≤ _; omega)).mono ?_
  rintro v4 H4 ⟨o4, g4, _⟩
  rw [← recs_append] at o4
  obtain ⟨a4, c4, rfl, s4⟩ := o4.slr
  have e4 : Ext H1 H4 := GrownH.of_ext (e2.trans e3) g4 (fun k hk => (o2.base k hk).1)
  refine ⟨_, _, _, rfl, ?_⟩
  refine (rSet_con _ (fun r hr => ?_) a4 _ c4 H4 s4 (by omega)).mono ?_
  · rcases List.mem_append.1 hr with h | h
    · exact setS_short _ r h
    · exact setS_short _ r h
  rintro _ H5 ⟨a5, c5, rfl, o5, e5⟩
  rw [ref_aim] at o5 ⊢
  exact ⟨_, _, _, rfl, _, _, rfl, o5.slr', (e1.trans e4).trans e5⟩
end Go.Proofs.YtoemipeomingaaaDoor
