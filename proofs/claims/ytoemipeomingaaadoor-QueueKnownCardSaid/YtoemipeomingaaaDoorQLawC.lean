/- The law QueueKnown: what its code answers. -/
import Derived.Test.YtoemipeomingaaaDoorQLawB
namespace Go.Proofs.YtoemipeomingaaaDoor
open Go Go.V

/-- one of the chapter's examples -/
structure KRow where
  needs : List Rec
  own : List Rec
  ready : Bs
  blocked : Bs
def joinR (l : List Rec) : Bs := l.flatMap fun r => r.path ++ [44]
def joinT (l : List Bs) : Bs := l.flatMap fun p => p ++ [44]
def krows : List KRow := [
  ⟨[⟨[97], 2, false, 0⟩, ⟨[97, 47, 98], 1, false, 0⟩], [], [97, 44, 97, 47, 98, 44], []⟩,
  ⟨[⟨[97], 1, true, 0⟩, ⟨[97, 47, 98], 1, true, 0⟩], [⟨[97], 2, false, 0⟩, ⟨[97, 47, 98], 1, false, 0⟩], [97, 47, 98, 44], []⟩,
  ⟨[⟨[97], 1, false, 0⟩, ⟨[97, 47, 98], 1, true, 0⟩], [⟨[97], 2, false, 0⟩, ⟨[97, 47, 98], 1, false, 0⟩], [97, 47, 98, 44], []⟩,
  ⟨[⟨[97], 1, false, 0⟩], [⟨[97], 2, false, 0⟩, ⟨[97, 47, 98], 1, false, 0⟩], [], [97, 44]⟩,
  ⟨[⟨[97], 1, true, 0⟩], [⟨[97], 2, false, 0⟩, ⟨[97, 47, 98], 1, false, 0⟩], [], [97, 44]⟩,
  ⟨[⟨[97, 47, 98], 1, false, 0⟩], [⟨[97], 1, false, 0⟩], [], [97, 44]⟩,
  ⟨[⟨[97, 47, 98], 1, false, 0⟩], [⟨[97], 1, true, 0⟩], [97, 47, 98, 44], [97, 44]⟩,
  ⟨[⟨[98], 1, true, 0⟩, ⟨[99], 1, false, 0⟩, ⟨[97], 1, true, 0⟩, ⟨[97, 47, 47, 98], 1, false, 0⟩, ⟨[122], 0, false, 0⟩], [⟨[98], 1, false, 0⟩, ⟨[97], 1, false, 0⟩], [99, 44, 98, 44, 97, 44], []⟩,
  ⟨[⟨[97], 1, false, 0⟩, ⟨[97], 2, false, 0⟩], [⟨[97], 2, false, 0⟩, ⟨[97, 47, 98], 1, false, 0⟩], [97, 44], []⟩]
theorem krows_say : (krows.all fun r => decide (joinR (readyS r.needs r.own) = r.ready) && decide (joinT (blockedS r.needs r.own) = r.blocked)) = true := by decide +kernel
theorem krows_small : (krows.all fun r => decide (r.needs.length ≤ 5) && decide (r.own.length ≤ 5) && decide (r.ready.length ≤ 100) && decide (r.blocked.length ≤ 100) && (r.needs.all fun x => decide (x.path.length ≤ 1000)) && (r.own.all fun x => decide (x.path.length ≤ 1000))) = true := by decide +kernel
/-- what a row's cells are -/
structure KCell where
  a : Option Addr
  n : Nat
  c : Nat
  a2 : Option Addr
  n2 : Nat
  c2 : Nat
  t1 : Bs
  t2 : Bs
def kcs (v : KCell) : List Value := [.slice v.a v.n v.c, .slice v.a2 v.n2 v.c2, sv v.t1, sv v.t2]
def KOk (H : Heap) (v : KCell) (r : KRow) : Prop := SlR H v.a v.n r.needs ∧ SlR H v.a2 v.n2 r.own ∧ v.t1 = r.ready ∧ v.t2 = r.blocked
def KAll (H : Heap) : List KCell → List KRow → Prop
  | [], [] => True
  | v :: vs, r :: rs => KOk H v r ∧ KAll H vs rs
  | _, _ => False
theorem KAll.get {H : Heap} : ∀ {vs : List KCell} {rs : List KRow} (k : Nat), KAll H vs rs → k < rs.length → ∃ v r, vs[k]? = some v ∧ rs[k]? = some r ∧ KOk H v r
  | [], [], k, _, hk => by simp at hk
  | [], _ :: _, _, h, _ => by cases h
  | _ :: _, [], _, h, _ => by cases h
  | v :: vs, r :: rs, 0, h, _ => ⟨v, r, rfl, rfl, h.1⟩
  | v :: vs, r :: rs, k + 1, h, hk => by
    obtain ⟨v', r', h1, h2, h3⟩ := KAll.get k h.2 (by simpa using hk)
    exact ⟨v', r', by simpa using h1, by simpa using h2, h3⟩
theorem build_row (a : Option Addr) (n c : Nat) (a2 : Option Addr) (n2 c2 : Nat) (t1 t2 : Bs) :
    PureV Tryd.prog (Instr.build 37 ⟨[(0, .slice a n c), (1, .slice a2 n2 c2), (2, sv t1), (3, sv t2)]⟩) (.agg ⟨kcs ⟨a, n, c, a2, n2, c2, t1, t2⟩⟩) := fun w => by kernel_rfl
theorem d_con (p : Bs) (H0 : Heap) : CallsH Tryd.prog 19 ⟨[sv p]⟩ H0 fun r H1 => r = .agg (rc ⟨p, 2, false, 0⟩) ∧ Ext H0 H1 := by
  refine caravanlaw20_QueueKnown_1.ok ?_
  refine st_new fun g H1 hg e1 b1 => ⟨_, build_rec2 p 2, ?_⟩
  refine st_wr b1 (rc_size _) rfl (rc_one _) fun H2 h2 b2 => ?_
  exact st_rd b2 (rc_size _) ⟨rfl, by rw [h2]; exact e1.upd hg⟩
theorem f_con (p : Bs) (H0 : Heap) : CallsH Tryd.prog 20 ⟨[sv p]⟩ H0 fun r H1 => r = .agg (rc ⟨p, 1, false, 0⟩) ∧ Ext H0 H1 := by
  refine caravanlaw20_QueueKnown_2.ok ?_
  refine st_new fun g H1 hg e1 b1 => ⟨_, build_rec2 p 1, ?_⟩
  refine st_wr b1 (rc_size _) rfl (rc_one _) fun H2 h2 b2 => ?_
  exact st_rd b2 (rc_size _) ⟨rfl, by rw [h2]; exact e1.upd hg⟩
theorem x_con (p : Bs) (H0 : Heap) : CallsH Tryd.prog 21 ⟨[sv p]⟩ H0 fun r H1 => r = .agg (rc ⟨p, 1, true, 0⟩) ∧ Ext H0 H1 := by
  refine caravanlaw20_QueueKnown_3.ok ?_
  refine st_new fun g H1 hg e1 b1 => ⟨_, build_rec3 p 1 true, ?_⟩
  refine st_wr b1 (rc_size _) rfl (rc_one _) fun H2 h2 b2 => ?_
  exact st_rd b2 (rc_size _) ⟨rfl, by rw [h2]; exact e1.upd hg⟩
theorem joinR_le (l : List Rec) (k : Nat) : (joinR (l.take k)).length ≤ (joinR l).length := by
  have : joinR l = joinR (l.take k) ++ joinR (l.drop k) := by
    unfold joinR
    rw [← List.flatMap_append, List.take_append_drop]
  rw [this, List.length_append]
  omega
theorem joinT_le (l : List Bs) (k : Nat) : (joinT (l.take k)).length ≤ (joinT l).length := by
  have : joinT l = joinT (l.take k) ++ joinT (l.drop k) := by
    unfold joinT
    rw [← List.flatMap_append, List.take_append_drop]
  rw [this, List.length_append]
  omega
theorem joinR_step {l : List Rec} {k : Nat} (h : k < l.length) : joinR (l.take (k + 1)) = (joinR (l.take k) ++ l[k].path) ++ [44] := by
  rw [List.take_succ_eq_append_getElem h]
  unfold joinR
  rw [List.flatMap_append, List.flatMap_cons, List.flatMap_nil, List.append_nil, List.append_assoc]
theorem joinT_step {l : List Bs} {k : Nat} (h : k < l.length) : joinT (l.take (k + 1)) = (joinT (l.take k) ++ l[k]) ++ [44] := by
  rw [List.take_succ_eq_append_getElem h]
  unfold joinT
  rw [List.flatMap_append, List.flatMap_cons, List.flatMap_nil, List.append_nil, List.append_assoc]
theorem QueueKnown_con (H0 : Heap) : CallsH Tryd.prog 5 ⟨[]⟩ H0 fun r H1 => r = .bool true ∧ Ext H0 H1 := by
  refine caravanlaw20_QueueKnown.ok ?_
  refine (d_con [97] H0).mono ?_
  rintro _ H1 ⟨rfl, e1⟩
  refine ⟨_, rfl, ?_⟩
  refine (f_con [97, 47, 98] H1).mono ?_
  rintro _ H2 ⟨rfl, e2⟩
  refine ⟨_, rfl, ?_⟩
  refine (build_recs [⟨[97], 2, false, 0⟩, ⟨[97, 47, 98], 1, false, 0⟩] _ rfl 2 rfl (by omega) H2).mono ?_
  rintro _ H3 ⟨a1, rfl, s1, e3⟩
  refine ⟨_, _, _, rfl, ?_⟩
  refine ⟨_, build_row a1 2 2 none 0 0 [97, 44, 97, 47, 98, 44] [], ?_⟩
  refine (x_con [97] H3).mono ?_
  rintro _ H4 ⟨rfl, e4⟩
  refine ⟨_, rfl, ?_⟩
  refine (x_con [97, 47, 98] H4).mono ?_
  rintro _ H5 ⟨rfl, e5⟩
  refine ⟨_, rfl, ?_⟩
  refine (build_recs [⟨[97], 1, true, 0⟩, ⟨[97, 47, 98], 1, true, 0⟩] _ rfl 2 rfl (by omega) H5).mono ?_
  rintro _ H6 ⟨a2, rfl, s2, e6⟩
  refine ⟨_, _, _, rfl, ?_⟩
  refine (d_con [97] H6).mono ?_
  rintro _ H7 ⟨rfl, e7⟩
  refine ⟨_, rfl, ?_⟩
  refine (f_con [97, 47, 98] H7).mono ?_
  rintro _ H8 ⟨rfl, e8⟩
  refine ⟨_, rfl, ?_⟩
  refine (build_recs [⟨[97], 2, false, 0⟩, ⟨[97, 47, 98], 1, false, 0⟩] _ rfl 2 rfl (by omega) H8).mono ?_
  rintro _ H9 ⟨a3, rfl, s3, e9⟩
  refine ⟨_, _, _, rfl, ?_⟩
  refine ⟨_, build_row a2 2 2 a3 2 2 [97, 47, 98, 44] [], ?_⟩
  refine (f_con [97] H9).mono ?_
  rintro _ H10 ⟨rfl, e10⟩
  refine ⟨_, rfl, ?_⟩
  refine (x_con [97, 47, 98] H10).mono ?_
  rintro _ H11 ⟨rfl, e11⟩
  refine ⟨_, rfl, ?_⟩
  refine (build_recs [⟨[97], 1, false, 0⟩, ⟨[97, 47, 98], 1, true, 0⟩] _ rfl 2 rfl (by omega) H11).mono ?_
  rintro _ H12 ⟨a4, rfl, s4, e12⟩
  refine ⟨_, _, _, rfl, ?_⟩
  refine (d_con [97] H12).mono ?_
  rintro _ H13 ⟨rfl, e13⟩
  refine ⟨_, rfl, ?_⟩
  refine (f_con [97, 47, 98] H13).mono ?_
  rintro _ H14 ⟨rfl, e14⟩
  refine ⟨_, rfl, ?_⟩
  refine (build_recs [⟨[97], 2, false, 0⟩, ⟨[97, 47, 98], 1, false, 0⟩] _ rfl 2 rfl (by omega) H14).mono ?_
  rintro _ H15 ⟨a5, rfl, s5, e15⟩
  refine ⟨_, _, _, rfl, ?_⟩
  refine ⟨_, build_row a4 2 2 a5 2 2 [97, 47, 98, 44] [], ?_⟩
  refine (f_con [97] H15).mono ?_
  rintro _ H16 ⟨rfl, e16⟩
  refine ⟨_, rfl, ?_⟩
  refine (build_recs [⟨[97], 1, false, 0⟩] _ rfl 1 rfl (by omega) H16).mono ?_
  rintro _ H17 ⟨a6, rfl, s6, e17⟩
  refine ⟨_, _, _, rfl, ?_⟩
  refine (d_con [97] H17).mono ?_
  rintro _ H18 ⟨rfl, e18⟩
  refine ⟨_, rfl, ?_⟩
  refine (f_con [97, 47, 98] H18).mono ?_
  rintro _ H19 ⟨rfl, e19⟩
  refine ⟨_, rfl, ?_⟩
  refine (build_recs [⟨[97], 2, false, 0⟩, ⟨[97, 47, 98], 1, false, 0⟩] _ rfl 2 rfl (by omega) H19).mono ?_
  rintro _ H20 ⟨a7, rfl, s7, e20⟩
  refine ⟨_, _, _, rfl, ?_⟩
  refine ⟨_, build_row a6 1 1 a7 2 2 [] [97, 44], ?_⟩
  refine (x_con [97] H20).mono ?_
  rintro _ H21 ⟨rfl, e21⟩
  refine ⟨_, rfl, ?_⟩
  refine (build_recs [⟨[97], 1, true, 0⟩] _ rfl 1 rfl (by omega) H21).mono ?_
  rintro _ H22 ⟨a8, rfl, s8, e22⟩
  refine ⟨_, _, _, rfl, ?_⟩
  refine (d_con [97] H22).mono ?_
  rintro _ H23 ⟨rfl, e23⟩
  refine ⟨_, rfl, ?_⟩
  refine (f_con [97, 47, 98] H23).mono ?_
  rintro _ H24 ⟨rfl, e24⟩
  refine ⟨_, rfl, ?_⟩
  refine (build_recs [⟨[97], 2, false, 0⟩, ⟨[97, 47, 98], 1, false, 0⟩] _ rfl 2 rfl (by omega) H24).mono ?_
  rintro _ H25 ⟨a9, rfl, s9, e25⟩
  refine ⟨_, _, _, rfl, ?_⟩
  refine ⟨_, build_row a8 1 1 a9 2 2 [] [97, 44], ?_⟩
  refine (f_con [97, 47, 98] H25).mono ?_
  rintro _ H26 ⟨rfl, e26⟩
  refine ⟨_, rfl, ?_⟩
  refine (build_recs [⟨[97, 47, 98], 1, false, 0⟩] _ rfl 1 rfl (by omega) H26).mono ?_
  rintro _ H27 ⟨a10, rfl, s10, e27⟩
  refine ⟨_, _, _, rfl, ?_⟩
  refine (f_con [97] H27).mono ?_
  rintro _ H28 ⟨rfl, e28⟩
  refine ⟨_, rfl, ?_⟩
  refine (build_recs [⟨[97], 1, false, 0⟩] _ rfl 1 rfl (by omega) H28).mono ?_
  rintro _ H29 ⟨a11, rfl, s11, e29⟩
  refine ⟨_, _, _, rfl, ?_⟩
  refine ⟨_, build_row a10 1 1 a11 1 1 [] [97, 44], ?_⟩
  refine (f_con [97, 47, 98] H29).mono ?_
  rintro _ H30 ⟨rfl, e30⟩
  refine ⟨_, rfl, ?_⟩
  refine (build_recs [⟨[97, 47, 98], 1, false, 0⟩] _ rfl 1 rfl (by omega) H30).mono ?_
  rintro _ H31 ⟨a12, rfl, s12, e31⟩
  refine ⟨_, _, _, rfl, ?_⟩
  refine (x_con [97] H31).mono ?_
  rintro _ H32 ⟨rfl, e32⟩
  refine ⟨_, rfl, ?_⟩
  refine (build_recs [⟨[97], 1, true, 0⟩] _ rfl 1 rfl (by omega) H32).mono ?_
  rintro _ H33 ⟨a13, rfl, s13, e33⟩
  refine ⟨_, _, _, rfl, ?_⟩
  refine ⟨_, build_row a12 1 1 a13 1 1 [97, 47, 98, 44] [97, 44], ?_⟩
  refine (x_con [98] H33).mono ?_
  rintro _ H34 ⟨rfl, e34⟩
  refine ⟨_, rfl, ?_⟩
  refine (f_con [99] H34).mono ?_
  rintro _ H35 ⟨rfl, e35⟩
  refine ⟨_, rfl, ?_⟩
  refine (x_con [97] H35).mono ?_
  rintro _ H36 ⟨rfl, e36⟩
  refine ⟨_, rfl, ?_⟩
  refine (f_con [97, 47, 47, 98] H36).mono ?_
  rintro _ H37 ⟨rfl, e37⟩
  refine ⟨_, rfl, ?_⟩
  refine ⟨_, build_rec1 [122], ?_⟩
  refine (build_recs [⟨[98], 1, true, 0⟩, ⟨[99], 1, false, 0⟩, ⟨[97], 1, true, 0⟩, ⟨[97, 47, 47, 98], 1, false, 0⟩, ⟨[122], 0, false, 0⟩] _ rfl 5 rfl (by omega) H37).mono ?_
  rintro _ H38 ⟨a14, rfl, s14, e38⟩
  refine ⟨_, _, _, rfl, ?_⟩
  refine (f_con [98] H38).mono ?_
  rintro _ H39 ⟨rfl, e39⟩
  refine ⟨_, rfl, ?_⟩
  refine (f_con [97] H39).mono ?_
  rintro _ H40 ⟨rfl, e40⟩
  refine ⟨_, rfl, ?_⟩
  refine (build_recs [⟨[98], 1, false, 0⟩, ⟨[97], 1, false, 0⟩] _ rfl 2 rfl (by omega) H40).mono ?_
  rintro _ H41 ⟨a15, rfl, s15, e41⟩
  refine ⟨_, _, _, rfl, ?_⟩
  refine ⟨_, build_row a14 5 5 a15 2 2 [99, 44, 98, 44, 97, 44] [], ?_⟩
  refine (f_con [97] H41).mono ?_
  rintro _ H42 ⟨rfl, e42⟩
  refine ⟨_, rfl, ?_⟩
  refine (d_con [97] H42).mono ?_
  rintro _ H43 ⟨rfl, e43⟩
  refine ⟨_, rfl, ?_⟩
  refine (build_recs [⟨[97], 1, false, 0⟩, ⟨[97], 2, false, 0⟩] _ rfl 2 rfl (by omega) H43).mono ?_
  rintro _ H44 ⟨a16, rfl, s16, e44⟩
  refine ⟨_, _, _, rfl, ?_⟩
  refine (d_con [97] H44).mono ?_
  rintro _ H45 ⟨rfl, e45⟩
  refine ⟨_, rfl, ?_⟩
  refine (f_con [97, 47, 98] H45).mono ?_
  rintro _ H46 ⟨rfl, e46⟩
  refine ⟨_, rfl, ?_⟩
  refine (build_recs [⟨[97], 2, false, 0⟩, ⟨[97, 47, 98], 1, false, 0⟩] _ rfl 2 rfl (by omega) H46).mono ?_
  rintro _ H47 ⟨a17, rfl, s17, e47⟩
  refine ⟨_, _, _, rfl, ?_⟩
  refine ⟨_, build_row a16 2 2 a17 2 2 [97, 44] [], ?_⟩
  have hcl : ∀ v ∈ (([⟨a1, 2, 2, none, 0, 0, [97, 44, 97, 47, 98, 44], []⟩, ⟨a2, 2, 2, a3, 2, 2, [97, 47, 98, 44], []⟩, ⟨a4, 2, 2, a5, 2, 2, [97, 47, 98, 44], []⟩, ⟨a6, 1, 1, a7, 2, 2, [], [97, 44]⟩, ⟨a8, 1, 1, a9, 2, 2, [], [97, 44]⟩, ⟨a10, 1, 1, a11, 1, 1, [], [97, 44]⟩, ⟨a12, 1, 1, a13, 1, 1, [97, 47, 98, 44], [97, 44]⟩, ⟨a14, 5, 5, a15, 2, 2, [99, 44, 98, 44, 97, 44], []⟩, ⟨a16, 2, 2, a17, 2, 2, [97, 44], []⟩] : List KCell).map fun v => Value.agg ⟨kcs v⟩), v.cells.size = 4 := by
    intro v hv
    obtain ⟨u, _, rfl⟩ := List.mem_map.1 hv
    rfl
  refine (sem_buildSlice (P := Tryd.prog) tab_ok (t := 38) (e := 37) rfl rfl (([⟨a1, 2, 2, none, 0, 0, [97, 44, 97, 47, 98, 44], []⟩, ⟨a2, 2, 2, a3, 2, 2, [97, 47, 98, 44], []⟩, ⟨a4, 2, 2, a5, 2, 2, [97, 47, 98, 44], []⟩, ⟨a6, 1, 1, a7, 2, 2, [], [97, 44]⟩, ⟨a8, 1, 1, a9, 2, 2, [], [97, 44]⟩, ⟨a10, 1, 1, a11, 1, 1, [], [97, 44]⟩, ⟨a12, 1, 1, a13, 1, 1, [97, 47, 98, 44], [97, 44]⟩, ⟨a14, 5, 5, a15, 2, 2, [99, 44, 98, 44, 97, 44], []⟩, ⟨a16, 2, 2, a17, 2, 2, [97, 44], []⟩] : List KCell).map fun v => Value.agg ⟨kcs v⟩) _ rfl H47 (n := 9) rfl hcl (by decide)).mono ?_
  rintro _ H48 ⟨g, rfl, hg, e48, b9⟩
  refine ⟨_, _, _, rfl, ?_⟩
  have x48 : Ext H48 H48 := Ext.refl _
  have x47 : Ext H47 H48 := e48.trans x48
  have x46 : Ext H46 H48 := e47.trans x47
  have x45 : Ext H45 H48 := e46.trans x46
  have x44 : Ext H44 H48 := e45.trans x45
  have x43 : Ext H43 H48 := e44.trans x44
  have x42 : Ext H42 H48 := e43.trans x43
  have x41 : Ext H41 H48 := e42.trans x42
  have x40 : Ext H40 H48 := e41.trans x41
  have x39 : Ext H39 H48 := e40.trans x40
  have x38 : Ext H38 H48 := e39.trans x39
  have x37 : Ext H37 H48 := e38.trans x38
  have x36 : Ext H36 H48 := e37.trans x37
  have x35 : Ext H35 H48 := e36.trans x36
  have x34 : Ext H34 H48 := e35.trans x35
  have x33 : Ext H33 H48 := e34.trans x34
  have x32 : Ext H32 H48 := e33.trans x33
  have x31 : Ext H31 H48 := e32.trans x32
  have x30 : Ext H30 H48 := e31.trans x31
  have x29 : Ext H29 H48 := e30.trans x30
  have x28 : Ext H28 H48 := e29.trans x29
  have x27 : Ext H27 H48 := e28.trans x28
  have x26 : Ext H26 H48 := e27.trans x27
  have x25 : Ext H25 H48 := e26.trans x26
  have x24 : Ext H24 H48 := e25.trans x25
  have x23 : Ext H23 H48 := e24.trans x24
  have x22 : Ext H22 H48 := e23.trans x23
  have x21 : Ext H21 H48 := e22.trans x22
  have x20 : Ext H20 H48 := e21.trans x21
  have x19 : Ext H19 H48 := e20.trans x20
  have x18 : Ext H18 H48 := e19.trans x19
  have x17 : Ext H17 H48 := e18.trans x18
  have x16 : Ext H16 H48 := e17.trans x17
  have x15 : Ext H15 H48 := e16.trans x16
  have x14 : Ext H14 H48 := e15.trans x15
  have x13 : Ext H13 H48 := e14.trans x14
  have x12 : Ext H12 H48 := e13.trans x13
  have x11 : Ext H11 H48 := e12.trans x12
  have x10 : Ext H10 H48 := e11.trans x11
  have x9 : Ext H9 H48 := e10.trans x10
  have x8 : Ext H8 H48 := e9.trans x9
  have x7 : Ext H7 H48 := e8.trans x8
  have x6 : Ext H6 H48 := e7.trans x7
  have x5 : Ext H5 H48 := e6.trans x6
  have x4 : Ext H4 H48 := e5.trans x5
  have x3 : Ext H3 H48 := e4.trans x4
  have x2 : Ext H2 H48 := e3.trans x3
  have x1 : Ext H1 H48 := e2.trans x2
  have x0 : Ext H0 H48 := e1.trans x1
  have hall : KAll H48 [⟨a1, 2, 2, none, 0, 0, [97, 44, 97, 47, 98, 44], []⟩, ⟨a2, 2, 2, a3, 2, 2, [97, 47, 98, 44], []⟩, ⟨a4, 2, 2, a5, 2, 2, [97, 47, 98, 44], []⟩, ⟨a6, 1, 1, a7, 2, 2, [], [97, 44]⟩, ⟨a8, 1, 1, a9, 2, 2, [], [97, 44]⟩, ⟨a10, 1, 1, a11, 1, 1, [], [97, 44]⟩, ⟨a12, 1, 1, a13, 1, 1, [97, 47, 98, 44], [97, 44]⟩, ⟨a14, 5, 5, a15, 2, 2, [99, 44, 98, 44, 97, 44], []⟩, ⟨a16, 2, 2, a17, 2, 2, [97, 44], []⟩] krows :=
    ⟨⟨s1.ext x3, SlR.of_nil _ _, rfl, rfl⟩, ⟨s2.ext x6, s3.ext x9, rfl, rfl⟩, ⟨s4.ext x12, s5.ext x15, rfl, rfl⟩, ⟨s6.ext x17, s7.ext x20, rfl, rfl⟩, ⟨s8.ext x22, s9.ext x25, rfl, rfl⟩, ⟨s10.ext x27, s11.ext x29, rfl, rfl⟩, ⟨s12.ext x31, s13.ext x33, rfl, rfl⟩, ⟨s14.ext x38, s15.ext x41, rfl, rfl⟩, ⟨s16.ext x44, s17.ext x47, rfl, rfl⟩, trivial⟩
  generalize ([⟨a1, 2, 2, none, 0, 0, [97, 44, 97, 47, 98, 44], []⟩, ⟨a2, 2, 2, a3, 2, 2, [97, 47, 98, 44], []⟩, ⟨a4, 2, 2, a5, 2, 2, [97, 47, 98, 44], []⟩, ⟨a6, 1, 1, a7, 2, 2, [], [97, 44]⟩, ⟨a8, 1, 1, a9, 2, 2, [], [97, 44]⟩, ⟨a10, 1, 1, a11, 1, 1, [], [97, 44]⟩, ⟨a12, 1, 1, a13, 1, 1, [97, 47, 98, 44], [97, 44]⟩, ⟨a14, 5, 5, a15, 2, 2, [99, 44, 98, 44, 97, 44], []⟩, ⟨a16, 2, 2, a17, 2, 2, [97, 44], []⟩] : List KCell) = cells at b9 hall hcl
  clear s1 s2 s3 s4 s5 s6 s7 s8 s9 s10 s11 s12 s13 s14 s15 s16 s17
  have hk9 : krows.length = 9 := rfl
  have rdc : ∀ (k i : Nat) (v : KCell) (u : Value) (H : Heap), Ext H48 H → cells[k]? = some v → i < 4 → (kcs v)[i]? = some u → cellAt H (Addr.add (Addr.add ⟨g, 0, none⟩ (k * 4)) i) = some u := by
    intro k i v u H e hv hi hu
    have hkl : k < cells.length := by
      rcases Nat.lt_or_ge k cells.length with h1 | h1
      · exact h1
      · rw [List.getElem?_eq_none h1] at hv; cases hv
    have hf := flat_get 4 (cells.map fun v => Value.agg ⟨kcs v⟩) hcl k i (by simpa using hkl) hi
    rw [add_add', (b9.ext e).cellA, Nat.zero_add, List.getElem?_toArray]
    rw [hf, List.getElem_map]
    rw [List.getElem?_eq_getElem hkl] at hv
    injection hv with hv
    rw [hv]
    simpa [Value.cells] using hu
  refine ⟨LI fun i H => ∃ k : Nat, i = k ∧ k ≤ 9 ∧ Ext H48 H, LM fun i => (9 - i).toNat, ⟨⟨_, rfl⟩, 0, rfl, by omega, Ext.refl _⟩, ?_⟩
  rintro i H1' ⟨k, rfl, hk, eL⟩
  refine ⟨fun h => ?_, fun _ => ?_⟩
  · have hk' : k < 9 := by have := of_decide_eq_true h; omega
    obtain ⟨v, r, hv, hr, hok1, hok2, ht1, ht2⟩ := hall.get k (by rw [hk9]; exact hk')
    have hmem := List.mem_of_getElem? hr
    have hsay := List.all_eq_true.1 krows_say r hmem
    have hsm := List.all_eq_true.1 krows_small r hmem
    simp only [Bool.and_eq_true, decide_eq_true_eq] at hsay hsm
    obtain ⟨⟨⟨⟨⟨hm1, hm2⟩, hm3⟩, hm4⟩, hm5⟩, hm6⟩ := hsm
    have hn1 := hok1.1
    have hn2 := hok2.1
    have hw : IntKind.wrap .i64 ((k : Int) + 1) = ((k + 1 : Nat) : Int) := by rw [wrap_i64 (by omega)]; omega
    rw [hw, toNat_cast]
    refine ⟨_, ⟨rfl, by omega, by omega⟩, _, _, _, rdc k 0 v _ H1' eL hv (by omega) rfl, _, ⟨rfl, by omega, by omega⟩, _, _, _, rdc k 1 v _ H1' eL hv (by omega) rfl, ?_⟩
    refine (Ready_con (needs := r.needs) (own := r.own) (short_of hm5) (short_of hm6) (by omega) (by omega) H1' (hok1.ext eL) (hok2.ext eL)).mono ?_
    rintro _ H2' ⟨a', c', rfl, s', e'⟩
    refine ⟨_, _, _, rfl, e', ?_⟩
    have hj := hsay.1
    generalize readyS r.needs r.own = S at s' hj ⊢
    refine ⟨LSI fun t i H => ∃ q : Nat, i = q ∧ q ≤ S.length ∧ H = H2' ∧ t = joinR (S.take q), LSIM fun i => ((S.length : Int) - i).toNat, ⟨⟨_, rfl⟩, ⟨_, rfl⟩, 0, rfl, by omega, rfl, rfl⟩, ?_⟩
    rintro t i H3' ⟨q, rfl, hq, rfl, rfl⟩
    refine ⟨fun h3 => ?_, fun h3 => ?_⟩
    · have hq' : q < S.length := by have := of_decide_eq_true h3; omega
      obtain ⟨ad, ha, hrd⟩ := s'.2 (by omega)
      have hrq := hrd q _ (List.getElem?_eq_getElem hq')
      have hst := joinR_step hq'
      have hle := joinR_le S (q + 1)
      rw [hj, hst, List.length_append, List.length_append] at hle
      have hsl : S.length ≤ (joinR S).length := by
        unfold joinR
        rw [List.length_flatMap]
        have key : ∀ l : List Rec, l.length ≤ (l.map fun a => (a.path ++ [44]).length).sum := by
          intro l
          induction l with
          | nil => simp
          | cons x l ih => simp at ih ⊢; omega
        exact key S
      rw [hj] at hsl
      have hwq : IntKind.wrap .i64 ((q : Int) + 1) = ((q + 1 : Nat) : Int) := by rw [wrap_i64 (by omega)]; omega
      refine ⟨ad, ⟨ha, by omega, by omega⟩, S[q].path, by rw [toNat_cast]; exact hrq.rcell (by omega) (rc_path _), by omega, by rw [List.length_append]; omega, ⟨_, rfl⟩, ⟨_, rfl⟩, ⟨q + 1, hwq, by omega, rfl, hst.symm⟩, ?_⟩
      rw [hwq]
      show ((S.length : Int) - ((q + 1 : Nat) : Int)).toNat < ((S.length : Int) - (q : Int)).toNat
      omega
    · have : q = S.length := by have := of_decide_eq_false h3; omega
      subst this
      rw [List.take_length, hj]
      refine ⟨_, ⟨rfl, by omega, by omega⟩, _, _, _, rdc k 0 v _ H3' (eL.trans e') hv (by omega) rfl, _, ⟨rfl, by omega, by omega⟩, _, _, _, rdc k 1 v _ H3' (eL.trans e') hv (by omega) rfl, ?_⟩
      refine (Blocked_con (needs := r.needs) (own := r.own) (short_of hm5) (short_of hm6) (by omega) (by omega) H3' (hok1.ext (eL.trans e')) (hok2.ext (eL.trans e'))).mono ?_
      rintro _ H4' ⟨a4', c4', rfl, s4', e4'⟩
      refine ⟨_, _, _, rfl, e4', ?_⟩
      have hj2 := hsay.2
      generalize blockedS r.needs r.own = U at s4' hj2 ⊢
      refine ⟨LSI fun t i H => ∃ q : Nat, i = q ∧ q ≤ U.length ∧ H = H4' ∧ t = joinT (U.take q), LSIM fun i => ((U.length : Int) - i).toNat, ⟨⟨_, rfl⟩, ⟨_, rfl⟩, 0, rfl, by omega, rfl, rfl⟩, ?_⟩
      rintro t i H5' ⟨q, rfl, hq5, rfl, rfl⟩
      refine ⟨fun h5 => ?_, fun h5 => ?_⟩
      · have hq' : q < U.length := by have := of_decide_eq_true h5; omega
        obtain ⟨ad, ha, hrd⟩ := s4'.2 (by omega)
        have hrq := hrd q _ (List.getElem?_eq_getElem hq')
        have hst := joinT_step hq'
        have hle := joinT_le U (q + 1)
        rw [hj2, hst, List.length_append, List.length_append] at hle
        have hsl : U.length ≤ (joinT U).length := by
          unfold joinT
          rw [List.length_flatMap]
          have key : ∀ l : List Bs, l.length ≤ (l.map fun a => (a ++ [44]).length).sum := by
            intro l
            induction l with
            | nil => simp
            | cons x l ih => simp at ih ⊢; omega
          exact key U
        rw [hj2] at hsl
        have hwq : IntKind.wrap .i64 ((q : Int) + 1) = ((q + 1 : Nat) : Int) := by rw [wrap_i64 (by omega)]; omega
        refine ⟨ad, ⟨ha, by omega, by omega⟩, U[q], by rw [toNat_cast]; exact hrq, by omega, by rw [List.length_append]; omega, ⟨_, rfl⟩, ⟨_, rfl⟩, ⟨q + 1, hwq, by omega, rfl, hst.symm⟩, ?_⟩
        rw [hwq]
        show ((U.length : Int) - ((q + 1 : Nat) : Int)).toNat < ((U.length : Int) - (q : Int)).toNat
        omega
      · have : q = U.length := by have := of_decide_eq_false h5; omega
        subst this
        rw [List.take_length, hj2]
        refine ⟨_, ⟨rfl, by omega, by omega⟩, _, rdc k 2 v _ H5' ((eL.trans e').trans e4') hv (by omega) rfl, _, fun _ => ⟨rfl, by omega, by omega⟩, _, fun _ => rdc k 3 v _ H5' ((eL.trans e').trans e4') hv (by omega) rfl, ?_⟩
        rw [ht1, ht2]
        refine ⟨fun h6 => by simp at h6, fun _ => ⟨⟨_, rfl⟩, ⟨k + 1, rfl, by omega, (eL.trans e').trans e4'⟩, ?_⟩⟩
        show (9 - ((k + 1 : Nat) : Int)).toNat < (9 - (k : Int)).toNat
        omega
  · refine (Ready_con (needs := []) (own := []) (fun r hr => by cases hr) (fun r hr => by cases hr) (by omega) (by omega) H1' (SlR.of_nil _ none) (SlR.of_nil _ none)).mono ?_
    rintro _ H2' ⟨a', c', rfl, _, e'⟩
    refine ⟨_, _, _, rfl, fun _ => ?_, fun h => by cases h⟩
    refine (Blocked_con (needs := []) (own := []) (fun r hr => by cases hr) (fun r hr => by cases hr) (by omega) (by omega) H2' (SlR.of_nil _ none) (SlR.of_nil _ none)).mono ?_
    rintro _ H3' ⟨a3', c3', rfl, _, e3'⟩
    refine ⟨_, _, _, rfl, fun _ => ?_, fun h => by cases h⟩
    refine (works_con H3').mono ?_
    rintro _ H4' ⟨rfl, e4'⟩
    exact ⟨_, rfl, rfl, (((x0.trans eL).trans e').trans e3').trans e4'⟩
end Go.Proofs.YtoemipeomingaaaDoor
