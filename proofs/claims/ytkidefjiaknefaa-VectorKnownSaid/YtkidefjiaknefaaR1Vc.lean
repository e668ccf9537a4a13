/- The forms of the program's functions over the heap alone, each tied to its code by the kernel. -/
import Derived.Test.YtkidefjiaknefaaVcgL
import Derived.Test.YtkidefjiaknefaaProg
namespace Go.Proofs.Ytkidefjiaknefaa
open Go Go.V
set_option maxRecDepth 100000

def tab : Tab := [
  (2, ⟨.int .i64, 1, 8, (.int .i64 0)⟩),
  (3, ⟨.int .i64, 1, 8, (.int .i64 0)⟩),
  (4, ⟨.bool, 1, 1, (.bool false)⟩),
  (22, ⟨.int .u32, 1, 4, (.int .u32 0)⟩),
  (24, ⟨.array 16 22, 16, 64, (.agg #[(.int .u32 0), (.int .u32 0), (.int .u32 0), (.int .u32 0), (.int .u32 0), (.int .u32 0), (.int .u32 0), (.int .u32 0), (.int .u32 0), (.int .u32 0), (.int .u32 0), (.int .u32 0), (.int .u32 0), (.int .u32 0), (.int .u32 0), (.int .u32 0)])⟩),
  (25, ⟨.int .i64, 1, 8, (.int .i64 0)⟩),
  (26, ⟨.tuple #[24, 25], 1, 0, (.tuple #[(.agg #[(.int .u32 0), (.int .u32 0), (.int .u32 0), (.int .u32 0), (.int .u32 0), (.int .u32 0), (.int .u32 0), (.int .u32 0), (.int .u32 0), (.int .u32 0), (.int .u32 0), (.int .u32 0), (.int .u32 0), (.int .u32 0), (.int .u32 0), (.int .u32 0)]), (.int .i64 0)])⟩),
  (28, ⟨.tuple #[24, 3], 1, 0, (.tuple #[(.agg #[(.int .u32 0), (.int .u32 0), (.int .u32 0), (.int .u32 0), (.int .u32 0), (.int .u32 0), (.int .u32 0), (.int .u32 0), (.int .u32 0), (.int .u32 0), (.int .u32 0), (.int .u32 0), (.int .u32 0), (.int .u32 0), (.int .u32 0), (.int .u32 0)]), (.int .i64 0)])⟩),
  (32, ⟨.slice 24, 1, 24, (.slice none 0 0)⟩),
  (37, ⟨.int .u64, 1, 8, (.int .u64 0)⟩),
  (41, ⟨.tuple #[3, 4], 1, 0, (.tuple #[(.int .i64 0), (.bool false)])⟩),
  (48, ⟨.slice 22, 1, 24, (.slice none 0 0)⟩)]
def zc (t : Nat) : Array Value := match tget tab t with | some i => i.zero.cells | none => #[]
theorem tab_ok : TabOk Try.prog tab := TabOk.of (by kernel_rfl)
def fns : List Nat := [3, 4, 5, 6, 7, 8, 9, 10, 11, 12, 13, 14, 15, 16, 17, 18, 19, 20, 21, 22]
theorem fns_all : fns.all (fun f => match Try.prog.funcs[f]? with | some fn => fn.body.isSome && !(fn.name == "runtime.NumGoroutine") | none => false) = true := by kernel_rfl
theorem fns_ok : ∀ f, memb f fns = true → ∀ args w, (callFunc f args).run Try.prog w = .ok (.enter f args) w := fnsOk_of fns_all
theorem mixed_ok : Try.prog.follows .mixedOrders = true := by kernel_rfl

/-- caravan/caravanlaw03.VectorBumps -/
def caravanlaw03_VectorBumps.vc (csarg0 : Array Value) (narg1 : Int) (narg2 : Int) (R : Value → Heap → Prop) (H0 : Heap) : Prop :=
  ∀ g3 H1, NewB H0 24 csarg0 g3 H1 → ∃ cs12, RdN H1 ⟨g3, 0, none⟩ 16 cs12 ∧ CallsH Try.prog 9 ⟨[(Value.agg cs12), (Value.int .i64 narg1), (Value.int .i64 narg2)]⟩ H1 (fun r15 H2 => ∃ (cs15_0 : Array
    Value), ∃ (n15_1 : Int), r15 = (Value.tuple ⟨[(Value.agg cs15_0), (Value.int .i64 n15_1)]⟩) ∧ ∀ g7 H3, NewB H2 24 (zc 24) g7 H3 → ∃ H4, cs15_0.size = 16 ∧ wrN H3 ⟨g7, 0, none⟩ cs15_0.toList 0 =
    some H4 ∧ ∃ cs19, RdN H4 ⟨g3, 0, none⟩ 16 cs19 ∧ CallsH Try.prog 10 ⟨[(Value.agg cs19), (Value.int .i64 narg1), (Value.int .i64 narg2)]⟩ H4 (fun r22 H5 => ∃ (cs22_0 : Array Value), ∃ (n22_1 :
    Int), r22 = (Value.tuple ⟨[(Value.agg cs22_0), (Value.int .i64 n22_1)]⟩) ∧ ∀ g9 H6, NewB H5 24 (zc 24) g9 H6 → ∃ H7, cs22_0.size = 16 ∧ wrN H6 ⟨g9, 0, none⟩ cs22_0.toList 0 = some H7 ∧ ∃ cs25, RdN
    H7 ⟨g7, 0, none⟩ 16 cs25 ∧ ∃ cs26, RdN H7 ⟨g9, 0, none⟩ 16 cs26 ∧ ∃ e27 : Bool, EqA Try.prog 24 cs25 cs26 e27 ∧ (((cond e27 (n15_1 == n22_1) false) = true → CallsH Try.prog 11 ⟨[]⟩ H7 (fun r34 H8
    => ∃ (b34 : Bool), r34 = (Value.bool b34) ∧ R (Value.bool b34) H8)) ∧ ((cond e27 (n15_1 == n22_1) false) = false → R (Value.bool false) H7))))
theorem caravanlaw03_VectorBumps.eq (csarg0 : Array Value) (narg1 : Int) (narg2 : Int) (R : Value → Heap → Prop) (H0 : Heap) : funcVC Try.prog tab fns [] [] Try.f3 [(Value.agg csarg0), (Value.int .i64 narg1), (Value.int .i64 narg2)] R H0 = caravanlaw03_VectorBumps.vc csarg0 narg1 narg2 R H0 := by kernel_rfl
theorem caravanlaw03_VectorBumps.ok {csarg0 : Array Value} {narg1 : Int} {narg2 : Int} {R : Value → Heap → Prop} {H0 : Heap} (h : caravanlaw03_VectorBumps.vc csarg0 narg1 narg2 R H0) : CallsH Try.prog 3 ⟨[(Value.agg csarg0), (Value.int .i64 narg1), (Value.int .i64 narg2)]⟩ H0 R :=
  funcVC_sound tab_ok fns_ok mixed_ok Try.func3 (cast (caravanlaw03_VectorBumps.eq csarg0 narg1 narg2 R H0).symm h)

/-- caravan/caravanlaw03.VectorMerges -/
def caravanlaw03_VectorMerges.vc (aarg0 : Option Addr) (lenarg0 caparg0 : Nat) (R : Value → Heap → Prop) (H0 : Heap) : Prop :=
  (((decide (((lenarg0 : Nat) : Int) > 200)) = true → CallsH Try.prog 11 ⟨[]⟩ H0 (fun r8 H1 => ∃ (b8 : Bool), r8 = (Value.bool b8) ∧ R (Value.bool b8) H1)) ∧ ((decide (((lenarg0 : Nat) : Int) > 200)) =
    false → SemH Try.prog (Instr.buildSlice 32 0 ⟨[]⟩) H0 (fun r9 H2 => ∃ (a9 : Option Addr) (len9 cap9 : Nat), r9 = (Value.slice a9 len9 cap9) ∧ SemH Try.prog (Builtin.append_ #[32, 32] 32
    ⟨[(Value.slice a9 len9 cap9), (Value.slice aarg0 lenarg0 caparg0)]⟩) H2 (fun r11 H3 => ∃ (a11 : Option Addr) (len11 cap11 : Nat), r11 = (Value.slice a11 len11 cap11) ∧ CallsH Try.prog 12
    ⟨[(Value.slice a11 len11 cap11)]⟩ H3 (fun r13 H4 => ∃ (cs13 : Array Value), r13 = (Value.agg cs13) ∧ CallsH Try.prog 13 ⟨[(Value.slice aarg0 lenarg0 caparg0)]⟩ H4 (fun r15 H5 => ∃ (cs15 : Array
    Value), r15 = (Value.agg cs15) ∧ ∃ e16 : Bool, EqA Try.prog 24 cs13 cs15 e16 ∧ (((!(e16)) = true → R (Value.bool false) H5) ∧ ((!(e16)) = false → ∃ (I7 : List Value → Heap → Prop) (m7 : List Value
    → Heap → Nat), ((∃ n : Int, (Value.int .i64 0) = Value.int .i64 n) ∧ I7 [(Value.int .i64 0)] H5) ∧ (∀ (n4 : Int), ∀ H6, I7 [(Value.int .i64 n4)] H6 → (((decide (n4 < ((lenarg0 : Nat) : Int))) =
    true → ∃ ad25, (a11 = some ad25 ∧ 0 ≤ n4 ∧ n4 < ((len11 : Nat) : Int)) ∧ ∃ cs26, RdN H6 (Addr.add ad25 (Int.toNat n4 * 16)) 16 cs26 ∧ ∃ ad29, (aarg0 = some ad29 ∧ 0 ≤ n4 ∧ n4 < ((lenarg0 : Nat) :
    Int)) ∧ ∃ cs30, RdN H6 (Addr.add ad29 (Int.toNat n4 * 16)) 16 cs30 ∧ ∃ e31 : Bool, EqA Try.prog 24 cs26 cs30 e31 ∧ (((!(e31)) = true → R (Value.bool false) H6) ∧ ((!(e31)) = false → (∃ n : Int,
    (Value.int .i64 (IntKind.wrap .i64 (n4 + 1))) = Value.int .i64 n) ∧ I7 [(Value.int .i64 (IntKind.wrap .i64 (n4 + 1)))] H6 ∧ m7 [(Value.int .i64 (IntKind.wrap .i64 (n4 + 1)))] H6 < m7 [(Value.int
    .i64 n4)] H6))) ∧ ((decide (n4 < ((lenarg0 : Nat) : Int))) = false → CallsH Try.prog 11 ⟨[]⟩ H6 (fun r32 H7 => ∃ (b32 : Bool), r32 = (Value.bool b32) ∧ R (Value.bool b32) H7))))))))))))
theorem caravanlaw03_VectorMerges.eq (aarg0 : Option Addr) (lenarg0 caparg0 : Nat) (R : Value → Heap → Prop) (H0 : Heap) : funcVC Try.prog tab fns [] [(7, [(4, 3)])] Try.f4 [(Value.slice aarg0 lenarg0 caparg0)] R H0 = caravanlaw03_VectorMerges.vc aarg0 lenarg0 caparg0 R H0 := by kernel_rfl
theorem caravanlaw03_VectorMerges.ok {aarg0 : Option Addr} {lenarg0 caparg0 : Nat} {R : Value → Heap → Prop} {H0 : Heap} (h : caravanlaw03_VectorMerges.vc aarg0 lenarg0 caparg0 R H0) : CallsH Try.prog 4 ⟨[(Value.slice aarg0 lenarg0 caparg0)]⟩ H0 R :=
  funcVC_sound tab_ok fns_ok mixed_ok Try.func4 (cast (caravanlaw03_VectorMerges.eq aarg0 lenarg0 caparg0 R H0).symm h)

/-- caravan/caravanlaw03.VectorOrder; region with 2 effects open -/
def caravanlaw03_VectorOrder.vc (csarg0 : Array Value) (csarg1 : Array Value) (csarg2 : Array Value) (R : Value → Heap → Prop) (H0 : Heap) : Prop :=
  ∀ g3 H1, NewB H0 24 csarg0 g3 H1 → ∀ g4 H2, NewB H1 24 csarg1 g4 H2 → ∀ g5 H3, NewB H2 24 csarg2 g5 H3 → ∃ cs13, RdN H3 ⟨g3, 0, none⟩ 16 cs13 ∧ ∃ cs14, RdN H3 ⟨g4, 0, none⟩ 16 cs14 ∧ ∃ cs16, RdN H3
    ⟨g4, 0, none⟩ 16 cs16 ∧ ∃ cs17, RdN H3 ⟨g3, 0, none⟩ 16 cs17 ∧ CallsH Try.prog 14 ⟨[(Value.agg cs13), (Value.agg cs14)]⟩ H3 (fun r15 H4 => ∃ (n15 : Int), r15 = (Value.int .i64 n15) ∧ Ext H3 H4 ∧
    CallsH Try.prog 14 ⟨[(Value.agg cs16), (Value.agg cs17)]⟩ H4 (fun r18 H5 => ∃ (n18 : Int), r18 = (Value.int .i64 n18) ∧ Ext H4 H5 ∧ ∃ M4 : List Value → Heap → Prop, (∃ cs37, ((cond (!((n15 == 2)
    == (n18 == 2))) true (cond (n15 != 2) (n15 != (IntKind.wrap .i64 (0 - n18))) false)) = false → RdN H5 ⟨g3, 0, none⟩ 16 cs37) ∧ ∃ cs38, ((cond (!((n15 == 2) == (n18 == 2))) true (cond (n15 != 2)
    (n15 != (IntKind.wrap .i64 (0 - n18))) false)) = false → RdN H5 ⟨g4, 0, none⟩ 16 cs38) ∧ ∃ e39 : Bool, ((cond (!((n15 == 2) == (n18 == 2))) true (cond (n15 != 2) (n15 != (IntKind.wrap .i64 (0 -
    n18))) false)) = false → EqA Try.prog 24 cs37 cs38 e39) ∧ (((cond (cond (!((n15 == 2) == (n18 == 2))) true (cond (n15 != 2) (n15 != (IntKind.wrap .i64 (0 - n18))) false)) true (!((n15 == 0) ==
    e39))) = true → R (Value.bool false) H5) ∧ ((cond (cond (!((n15 == 2) == (n18 == 2))) true (cond (n15 != 2) (n15 != (IntKind.wrap .i64 (0 - n18))) false)) true (!((n15 == 0) == e39))) = false → M4
    [] H5))) ∧ (∀ H6, M4 [] H6 → ∃ M6 : List Value → Heap → Prop, (∃ cs45, ((n15 == 1) = true → RdN H6 ⟨g3, 0, none⟩ 16 cs45) ∧ ∃ cs47, ((n15 == 1) = true → RdN H6 ⟨g4, 0, none⟩ 16 cs47) ∧ (((n15 ==
    1) = true → CallsH Try.prog 15 ⟨[(Value.agg cs45)]⟩ H6 (fun r46 H7 => ∃ (n46 : Int), r46 = (Value.int .u64 n46) ∧ Ext H6 H7 ∧ CallsH Try.prog 15 ⟨[(Value.agg cs47)]⟩ H7 (fun r48 H8 => ∃ (n48 :
    Int), r48 = (Value.int .u64 n48) ∧ Ext H7 H8 ∧ ∃ cs55, ((n15 == 1) = true → ((decide (n46 ≤ n48)) = false → RdN H8 ⟨g4, 0, none⟩ 16 cs55)) ∧ ∃ cs56, ((n15 == 1) = true → ((decide (n46 ≤ n48)) =
    false → RdN H8 ⟨g5, 0, none⟩ 16 cs56)) ∧ (((decide (n46 ≤ n48)) = true → R (Value.bool false) H8) ∧ ((decide (n46 ≤ n48)) = false → (((n15 == 1) = true → CallsH Try.prog 14 ⟨[(Value.agg cs55),
    (Value.agg cs56)]⟩ H8 (fun r57 H9 => ∃ (n57 : Int), r57 = (Value.int .i64 n57) ∧ Ext H8 H9 ∧ ∃ cs61, ((n57 == 1) = true → RdN H9 ⟨g3, 0, none⟩ 16 cs61) ∧ ∃ cs62, ((n57 == 1) = true → RdN H9 ⟨g5,
    0, none⟩ 16 cs62) ∧ (((n57 == 1) = true → CallsH Try.prog 14 ⟨[(Value.agg cs61), (Value.agg cs62)]⟩ H9 (fun r63 H10 => ∃ (n63 : Int), r63 = (Value.int .i64 n63) ∧ Ext H9 H10 ∧ (((n63 != 1) = true
    → R (Value.bool false) H10) ∧ ((n63 != 1) = false → M6 [] H10)))) ∧ ((n57 == 1) = false → M6 [] H9)))) ∧ ((n15 == 1) = false → M6 [] H8))))))) ∧ ((n15 == 1) = false → ∃ cs55_1, ((n15 == 1) = true
    → RdN H6 ⟨g4, 0, none⟩ 16 cs55_1) ∧ ∃ cs56_1, ((n15 == 1) = true → RdN H6 ⟨g5, 0, none⟩ 16 cs56_1) ∧ (((n15 == 1) = true → CallsH Try.prog 14 ⟨[(Value.agg cs55_1), (Value.agg cs56_1)]⟩ H6 (fun
    r57_1 H11 => ∃ (n57_1 : Int), r57_1 = (Value.int .i64 n57_1) ∧ Ext H6 H11 ∧ ∃ cs61_1, ((n57_1 == 1) = true → RdN H11 ⟨g3, 0, none⟩ 16 cs61_1) ∧ ∃ cs62_1, ((n57_1 == 1) = true → RdN H11 ⟨g5, 0,
    none⟩ 16 cs62_1) ∧ (((n57_1 == 1) = true → CallsH Try.prog 14 ⟨[(Value.agg cs61_1), (Value.agg cs62_1)]⟩ H11 (fun r63_1 H12 => ∃ (n63_1 : Int), r63_1 = (Value.int .i64 n63_1) ∧ Ext H11 H12 ∧
    (((n63_1 != 1) = true → R (Value.bool false) H12) ∧ ((n63_1 != 1) = false → M6 [] H12)))) ∧ ((n57_1 == 1) = false → M6 [] H11)))) ∧ ((n15 == 1) = false → M6 [] H6))))) ∧ (∀ H13, M6 [] H13 → ∃
    cs67, RdN H13 ⟨g3, 0, none⟩ 16 cs67 ∧ ∃ cs68, RdN H13 ⟨g4, 0, none⟩ 16 cs68 ∧ SemH Try.prog (Instr.buildSlice 32 2 ⟨[(0, (Value.agg cs67)), (1, (Value.agg cs68))]⟩) H13 (fun r69 H14 => ∃ (a69 :
    Option Addr) (len69 cap69 : Nat), r69 = (Value.slice a69 len69 cap69) ∧ CallsH Try.prog 12 ⟨[(Value.slice a69 len69 cap69)]⟩ H14 (fun r70 H15 => ∃ (cs70 : Array Value), r70 = (Value.agg cs70) ∧ ∀
    g9 H16, NewB H15 24 (zc 24) g9 H16 → ∃ H17, cs70.size = 16 ∧ wrN H16 ⟨g9, 0, none⟩ cs70.toList 0 = some H17 ∧ ∃ M8 : List Value → Heap → Prop, (∃ cs71, RdN H17 ⟨g9, 0, none⟩ 16 cs71 ∧ ∃ cs72, RdN
    H17 ⟨g3, 0, none⟩ 16 cs72 ∧ CallsH Try.prog 14 ⟨[(Value.agg cs71), (Value.agg cs72)]⟩ H17 (fun r73 H18 => ∃ (n73 : Int), r73 = (Value.int .i64 n73) ∧ ∃ cs76, ((decide (n73 ≥ 0)) = true → RdN H18
    ⟨g9, 0, none⟩ 16 cs76) ∧ ∃ cs77, ((decide (n73 ≥ 0)) = true → RdN H18 ⟨g3, 0, none⟩ 16 cs77) ∧ (((decide (n73 ≥ 0)) = true → CallsH Try.prog 14 ⟨[(Value.agg cs76), (Value.agg cs77)]⟩ H18 (fun r78
    H19 => ∃ (n78 : Int), r78 = (Value.int .i64 n78) ∧ ∃ cs82, ((decide (n78 < 2)) = true → RdN H19 ⟨g9, 0, none⟩ 16 cs82) ∧ ∃ cs83, ((decide (n78 < 2)) = true → RdN H19 ⟨g4, 0, none⟩ 16 cs83) ∧
    (((decide (n78 < 2)) = true → CallsH Try.prog 14 ⟨[(Value.agg cs82), (Value.agg cs83)]⟩ H19 (fun r84 H20 => ∃ (n84 : Int), r84 = (Value.int .i64 n84) ∧ ∃ cs88, ((decide (n84 ≥ 0)) = true → RdN H20
    ⟨g9, 0, none⟩ 16 cs88) ∧ ∃ cs89, ((decide (n84 ≥ 0)) = true → RdN H20 ⟨g4, 0, none⟩ 16 cs89) ∧ (((decide (n84 ≥ 0)) = true → CallsH Try.prog 14 ⟨[(Value.agg cs88), (Value.agg cs89)]⟩ H20 (fun r90
    H21 => ∃ (n90 : Int), r90 = (Value.int .i64 n90) ∧ (∃ b : Bool, (Value.bool (decide (n90 < 2))) = Value.bool b) ∧ M8 [(Value.bool (decide (n90 < 2)))] H21)) ∧ ((decide (n84 ≥ 0)) = false → (∃ b :
    Bool, (Value.bool false) = Value.bool b) ∧ M8 [(Value.bool false)] H20)))) ∧ ((decide (n78 < 2)) = false → (∃ b : Bool, (Value.bool false) = Value.bool b) ∧ M8 [(Value.bool false)] H19)))) ∧
    ((decide (n73 ≥ 0)) = false → (∃ b : Bool, (Value.bool false) = Value.bool b) ∧ M8 [(Value.bool false)] H18)))) ∧ (∀ (b10 : Bool), ∀ H22, M8 [(Value.bool b10)] H22 → ∃ cs93, RdN H22 ⟨g5, 0, none⟩
    16 cs93 ∧ ∃ cs94, RdN H22 ⟨g3, 0, none⟩ 16 cs94 ∧ ∃ cs96, RdN H22 ⟨g5, 0, none⟩ 16 cs96 ∧ ∃ cs97, RdN H22 ⟨g4, 0, none⟩ 16 cs97 ∧ CallsH Try.prog 14 ⟨[(Value.agg cs93), (Value.agg cs94)]⟩ H22 (fun
    r95 H23 => ∃ (n95 : Int), r95 = (Value.int .i64 n95) ∧ Ext H22 H23 ∧ CallsH Try.prog 14 ⟨[(Value.agg cs96), (Value.agg cs97)]⟩ H23 (fun r98 H24 => ∃ (n98 : Int), r98 = (Value.int .i64 n98) ∧ Ext
    H23 H24 ∧ ∃ M11 : List Value → Heap → Prop, (∃ cs114, ((cond (cond (n95 == 0) true (n95 == 1)) (cond (n98 == 0) true (n98 == 1)) false) = true → RdN H24 ⟨g5, 0, none⟩ 16 cs114) ∧ ∃ cs115, ((cond
    (cond (n95 == 0) true (n95 == 1)) (cond (n98 == 0) true (n98 == 1)) false) = true → RdN H24 ⟨g9, 0, none⟩ 16 cs115) ∧ (((cond (cond (n95 == 0) true (n95 == 1)) (cond (n98 == 0) true (n98 == 1))
    false) = true → CallsH Try.prog 14 ⟨[(Value.agg cs114), (Value.agg cs115)]⟩ H24 (fun r116 H25 => ∃ (n116 : Int), r116 = (Value.int .i64 n116) ∧ ∃ cs120, ((n116 != 0) = true → RdN H25 ⟨g5, 0, none⟩
    16 cs120) ∧ ∃ cs121, ((n116 != 0) = true → RdN H25 ⟨g9, 0, none⟩ 16 cs121) ∧ (((n116 != 0) = true → CallsH Try.prog 14 ⟨[(Value.agg cs120), (Value.agg cs121)]⟩ H25 (fun r122 H26 => ∃ (n122 : Int),
    r122 = (Value.int .i64 n122) ∧ (((n122 != 1) = true → R (Value.bool false) H26) ∧ ((n122 != 1) = false → M11 [] H26)))) ∧ ((n116 != 0) = false → M11 [] H25)))) ∧ ((cond (cond (n95 == 0) true (n95
    == 1)) (cond (n98 == 0) true (n98 == 1)) false) = false → M11 [] H24))) ∧ (∀ H27, M11 [] H27 → ∃ cs127, (b10 = true → RdN H27 ⟨g9, 0, none⟩ 16 cs127) ∧ ∃ cs128, (b10 = true → RdN H27 ⟨g4, 0, none⟩
    16 cs128) ∧ ∃ cs129, (b10 = true → RdN H27 ⟨g3, 0, none⟩ 16 cs129) ∧ ((b10 = true → SemH Try.prog (Instr.buildSlice 32 2 ⟨[(0, (Value.agg cs128)), (1, (Value.agg cs129))]⟩) H27 (fun r130 H28 => ∃
    (a130 : Option Addr) (len130 cap130 : Nat), r130 = (Value.slice a130 len130 cap130) ∧ Ext H27 H28 ∧ CallsH Try.prog 12 ⟨[(Value.slice a130 len130 cap130)]⟩ H28 (fun r131 H29 => ∃ (cs131 : Array
    Value), r131 = (Value.agg cs131) ∧ Ext H28 H29 ∧ ∃ e132 : Bool, EqA Try.prog 24 cs127 cs131 e132 ∧ ∃ cs135, (e132 = true → RdN H29 ⟨g9, 0, none⟩ 16 cs135) ∧ ∃ cs136, (e132 = true → RdN H29 ⟨g3, 0,
    none⟩ 16 cs136) ∧ ∃ cs137, (e132 = true → RdN H29 ⟨g4, 0, none⟩ 16 cs137) ∧ ∃ cs138, (e132 = true → RdN H29 ⟨g3, 0, none⟩ 16 cs138) ∧ ∃ cs139, (e132 = true → RdN H29 ⟨g4, 0, none⟩ 16 cs139) ∧
    ((e132 = true → SemH Try.prog (Instr.buildSlice 32 4 ⟨[(0, (Value.agg cs136)), (1, (Value.agg cs137)), (2, (Value.agg cs138)), (3, (Value.agg cs139))]⟩) H29 (fun r140 H30 => ∃ (a140 : Option Addr)
    (len140 cap140 : Nat), r140 = (Value.slice a140 len140 cap140) ∧ Ext H29 H30 ∧ CallsH Try.prog 12 ⟨[(Value.slice a140 len140 cap140)]⟩ H30 (fun r141 H31 => ∃ (cs141 : Array Value), r141 =
    (Value.agg cs141) ∧ Ext H30 H31 ∧ ∃ e142 : Bool, EqA Try.prog 24 cs135 cs141 e142 ∧ ∃ cs145, (e142 = true → RdN H31 ⟨g3, 0, none⟩ 16 cs145) ∧ ∃ cs146, (e142 = true → RdN H31 ⟨g3, 0, none⟩ 16
    cs146) ∧ ∃ cs149, (e142 = true → RdN H31 ⟨g3, 0, none⟩ 16 cs149) ∧ ((e142 = true → SemH Try.prog (Instr.buildSlice 32 2 ⟨[(0, (Value.agg cs145)), (1, (Value.agg cs146))]⟩) H31 (fun r147 H32 => ∃
    (a147 : Option Addr) (len147 cap147 : Nat), r147 = (Value.slice a147 len147 cap147) ∧ Ext H31 H32 ∧ CallsH Try.prog 12 ⟨[(Value.slice a147 len147 cap147)]⟩ H32 (fun r148 H33 => ∃ (cs148 : Array
    Value), r148 = (Value.agg cs148) ∧ Ext H32 H33 ∧ ∃ e150 : Bool, EqA Try.prog 24 cs148 cs149 e150 ∧ ∃ cs153, (e150 = true → RdN H33 ⟨g9, 0, none⟩ 16 cs153) ∧ ∃ cs154, (e150 = true → RdN H33 ⟨g5, 0,
    none⟩ 16 cs154) ∧ ∃ cs157, (e150 = true → RdN H33 ⟨g3, 0, none⟩ 16 cs157) ∧ ∃ cs158, (e150 = true → RdN H33 ⟨g4, 0, none⟩ 16 cs158) ∧ ∃ cs159, (e150 = true → RdN H33 ⟨g5, 0, none⟩ 16 cs159) ∧
    ((((e150 = true → SemH Try.prog (Instr.buildSlice 32 2 ⟨[(0, (Value.agg cs153)), (1, (Value.agg cs154))]⟩) H33 (fun r155 H34 => ∃ (a155 : Option Addr) (len155 cap155 : Nat), r155 = (Value.slice
    a155 len155 cap155) ∧ Ext H33 H34 ∧ ((CallsH Try.prog 12 ⟨[(Value.slice a155 len155 cap155)]⟩ H34 (fun r156 H35 => ∃ (cs156 : Array Value), r156 = (Value.agg cs156) ∧ Ext H34 H35 ∧ SemH Try.prog
    (Instr.buildSlice 32 2 ⟨[(0, (Value.agg cs158)), (1, (Value.agg cs159))]⟩) H35 (fun r160 H36 => ∃ (a160 : Option Addr) (len160 cap160 : Nat), r160 = (Value.slice a160 len160 cap160) ∧ Ext H35 H36
    ∧ CallsH Try.prog 12 ⟨[(Value.slice a160 len160 cap160)]⟩ H36 (fun r161 H37 => ∃ (cs161 : Array Value), r161 = (Value.agg cs161) ∧ Ext H36 H37 ∧ SemH Try.prog (Instr.buildSlice 32 2 ⟨[(0,
    (Value.agg cs157)), (1, (Value.agg cs161))]⟩) H37 (fun r162 H38 => ∃ (a162 : Option Addr) (len162 cap162 : Nat), r162 = (Value.slice a162 len162 cap162) ∧ Ext H37 H38 ∧ CallsH Try.prog 12
    ⟨[(Value.slice a162 len162 cap162)]⟩ H38 (fun r163 H39 => ∃ (cs163 : Array Value), r163 = (Value.agg cs163) ∧ Ext H38 H39 ∧ ∃ e164 : Bool, EqA Try.prog 24 cs156 cs163 e164 ∧ ((e164 = true → CallsH
    Try.prog 11 ⟨[]⟩ H39 (fun r167 H40 => ∃ (b167 : Bool), r167 = (Value.bool b167) ∧ Ext H39 H40 ∧ R (Value.bool b167) H40)) ∧ (e164 = false → R (Value.bool false) H39)))))))) ∧ (SemH Try.prog
    (Instr.buildSlice 32 2 ⟨[(0, (Value.agg cs158)), (1, (Value.agg cs159))]⟩) H34 (fun r160_1 H41 => ∃ (a160_1 : Option Addr) (len160_1 cap160_1 : Nat), r160_1 = (Value.slice a160_1 len160_1
    cap160_1) ∧ Ext H34 H41 ∧ CallsH Try.prog 12 ⟨[(Value.slice a155 len155 cap155)]⟩ H41 (fun r156_1 H42 => ∃ (cs156_1 : Array Value), r156_1 = (Value.agg cs156_1) ∧ Ext H41 H42 ∧ CallsH Try.prog 12
    ⟨[(Value.slice a160_1 len160_1 cap160_1)]⟩ H42 (fun r161_1 H43 => ∃ (cs161_1 : Array Value), r161_1 = (Value.agg cs161_1) ∧ Ext H42 H43 ∧ SemH Try.prog (Instr.buildSlice 32 2 ⟨[(0, (Value.agg
    cs157)), (1, (Value.agg cs161_1))]⟩) H43 (fun r162_1 H44 => ∃ (a162_1 : Option Addr) (len162_1 cap162_1 : Nat), r162_1 = (Value.slice a162_1 len162_1 cap162_1) ∧ Ext H43 H44 ∧ CallsH Try.prog 12
    ⟨[(Value.slice a162_1 len162_1 cap162_1)]⟩ H44 (fun r163_1 H45 => ∃ (cs163_1 : Array Value), r163_1 = (Value.agg cs163_1) ∧ Ext H44 H45 ∧ ∃ e164_1 : Bool, EqA Try.prog 24 cs156_1 cs163_1 e164_1 ∧
    ((e164_1 = true → CallsH Try.prog 11 ⟨[]⟩ H45 (fun r167_1 H46 => ∃ (b167_1 : Bool), r167_1 = (Value.bool b167_1) ∧ Ext H45 H46 ∧ R (Value.bool b167_1) H46)) ∧ (e164_1 = false → R (Value.bool
    false) H45))))))))))) ∧ (e150 = false → ((R (Value.bool false) H33) ∧ (R (Value.bool false) H33))))) ∧ (((e150 = true → SemH Try.prog (Instr.buildSlice 32 2 ⟨[(0, (Value.agg cs158)), (1,
    (Value.agg cs159))]⟩) H33 (fun r160_2 H47 => ∃ (a160_2 : Option Addr) (len160_2 cap160_2 : Nat), r160_2 = (Value.slice a160_2 len160_2 cap160_2) ∧ Ext H33 H47 ∧ SemH Try.prog (Instr.buildSlice 32
    2 ⟨[(0, (Value.agg cs153)), (1, (Value.agg cs154))]⟩) H47 (fun r155_1 H48 => ∃ (a155_1 : Option Addr) (len155_1 cap155_1 : Nat), r155_1 = (Value.slice a155_1 len155_1 cap155_1) ∧ Ext H47 H48 ∧
    CallsH Try.prog 12 ⟨[(Value.slice a155_1 len155_1 cap155_1)]⟩ H48 (fun r156_2 H49 => ∃ (cs156_2 : Array Value), r156_2 = (Value.agg cs156_2) ∧ Ext H48 H49 ∧ CallsH Try.prog 12 ⟨[(Value.slice
    a160_2 len160_2 cap160_2)]⟩ H49 (fun r161_2 H50 => ∃ (cs161_2 : Array Value), r161_2 = (Value.agg cs161_2) ∧ Ext H49 H50 ∧ SemH Try.prog (Instr.buildSlice 32 2 ⟨[(0, (Value.agg cs157)), (1,
    (Value.agg cs161_2))]⟩) H50 (fun r162_2 H51 => ∃ (a162_2 : Option Addr) (len162_2 cap162_2 : Nat), r162_2 = (Value.slice a162_2 len162_2 cap162_2) ∧ Ext H50 H51 ∧ CallsH Try.prog 12 ⟨[(Value.slice
    a162_2 len162_2 cap162_2)]⟩ H51 (fun r163_2 H52 => ∃ (cs163_2 : Array Value), r163_2 = (Value.agg cs163_2) ∧ Ext H51 H52 ∧ ∃ e164_2 : Bool, EqA Try.prog 24 cs156_2 cs163_2 e164_2 ∧ ((e164_2 = true
    → CallsH Try.prog 11 ⟨[]⟩ H52 (fun r167_2 H53 => ∃ (b167_2 : Bool), r167_2 = (Value.bool b167_2) ∧ Ext H52 H53 ∧ R (Value.bool b167_2) H53)) ∧ (e164_2 = false → R (Value.bool false) H52))))))))) ∧
    (e150 = false → R (Value.bool false) H33))))))) ∧ (e142 = false → ((((R (Value.bool false) H31) ∧ (R (Value.bool false) H31))) ∧ (R (Value.bool false) H31))))))) ∧ (e132 = false → ((((R
    (Value.bool false) H29) ∧ (R (Value.bool false) H29))) ∧ (R (Value.bool false) H29))))))) ∧ (b10 = false → ((((R (Value.bool false) H27) ∧ (R (Value.bool false) H27))) ∧ (R (Value.bool false)
    H27))))))))))))))
theorem caravanlaw03_VectorOrder.eq (csarg0 : Array Value) (csarg1 : Array Value) (csarg2 : Array Value) (R : Value → Heap → Prop) (H0 : Heap) : funcVC Try.prog tab fns [(4, []), (6, []), (8, [(10, 4)]), (11, [])] [] Try.f5 [(Value.agg csarg0), (Value.agg csarg1), (Value.agg csarg2)] R H0 = caravanlaw03_VectorOrder.vc csarg0 csarg1 csarg2 R H0 := by kernel_rfl
theorem caravanlaw03_VectorOrder.ok {csarg0 : Array Value} {csarg1 : Array Value} {csarg2 : Array Value} {R : Value → Heap → Prop} {H0 : Heap} (h : caravanlaw03_VectorOrder.vc csarg0 csarg1 csarg2 R H0) : CallsH Try.prog 5 ⟨[(Value.agg csarg0), (Value.agg csarg1), (Value.agg csarg2)]⟩ H0 R :=
  funcVC_sound tab_ok fns_ok mixed_ok Try.func5 (cast (caravanlaw03_VectorOrder.eq csarg0 csarg1 csarg2 R H0).symm h)

/-- caravan/caravanlaw03.VectorNew -/
def caravanlaw03_VectorNew.vc (csarg0 : Array Value) (csarg1 : Array Value) (narg2 : Int) (narg3 : Int) (R : Value → Heap → Prop) (H0 : Heap) : Prop :=
  ∀ g4 H1, NewB H0 24 csarg0 g4 H1 → ∀ g5 H2, NewB H1 24 csarg1 g5 H2 → ∃ cs14, RdN H2 ⟨g4, 0, none⟩ 16 cs14 ∧ CallsH Try.prog 9 ⟨[(Value.agg cs14), (Value.int .i64 narg2), (Value.int .i64 narg3)]⟩ H2
    (fun r17 H3 => ∃ (cs17_0 : Array Value), ∃ (n17_1 : Int), r17 = (Value.tuple ⟨[(Value.agg cs17_0), (Value.int .i64 n17_1)]⟩) ∧ ∀ g9 H4, NewB H3 24 (zc 24) g9 H4 → ∃ H5, cs17_0.size = 16 ∧ wrN H4
    ⟨g9, 0, none⟩ cs17_0.toList 0 = some H5 ∧ (((n17_1 != 0) = true → ∃ cs22, RdN H5 ⟨g9, 0, none⟩ 16 cs22 ∧ ∃ (cs23 : Array Value), PureV Try.prog (Instr.build 24 ⟨[]⟩) (Value.agg cs23) ∧ ∃ e24 :
    Bool, EqA Try.prog 24 cs22 cs23 e24 ∧ ((e24 = true → CallsH Try.prog 11 ⟨[]⟩ H5 (fun r26 H6 => ∃ (b26 : Bool), r26 = (Value.bool b26) ∧ R (Value.bool b26) H6)) ∧ (e24 = false → R (Value.bool
    false) H5))) ∧ ((n17_1 != 0) = false → ∃ M6 : List Value → Heap → Prop, (∃ cs28, RdN H5 ⟨g9, 0, none⟩ 16 cs28 ∧ ∃ cs29, RdN H5 ⟨g4, 0, none⟩ 16 cs29 ∧ CallsH Try.prog 14 ⟨[(Value.agg cs28),
    (Value.agg cs29)]⟩ H5 (fun r30 H7 => ∃ (n30 : Int), r30 = (Value.int .i64 n30) ∧ ∃ cs33, ((n30 != 1) = false → RdN H7 ⟨g4, 0, none⟩ 16 cs33) ∧ ∃ cs34, ((n30 != 1) = false → RdN H7 ⟨g5, 0, none⟩ 16
    cs34) ∧ (((n30 != 1) = true → R (Value.bool false) H7) ∧ ((n30 != 1) = false → CallsH Try.prog 14 ⟨[(Value.agg cs33), (Value.agg cs34)]⟩ H7 (fun r35 H8 => ∃ (n35 : Int), r35 = (Value.int .i64 n35)
    ∧ ∃ cs38, ((n35 == 2) = true → RdN H8 ⟨g9, 0, none⟩ 16 cs38) ∧ ∃ cs39, ((n35 == 2) = true → RdN H8 ⟨g5, 0, none⟩ 16 cs39) ∧ (((n35 == 2) = true → CallsH Try.prog 14 ⟨[(Value.agg cs38), (Value.agg
    cs39)]⟩ H8 (fun r40 H9 => ∃ (n40 : Int), r40 = (Value.int .i64 n40) ∧ ∃ cs44, ((n40 != 2) = true → RdN H9 ⟨g9, 0, none⟩ 16 cs44) ∧ ∃ cs45, ((n40 != 2) = true → RdN H9 ⟨g5, 0, none⟩ 16 cs45) ∧
    (((n40 != 2) = true → CallsH Try.prog 14 ⟨[(Value.agg cs44), (Value.agg cs45)]⟩ H9 (fun r46 H10 => ∃ (n46 : Int), r46 = (Value.int .i64 n46) ∧ (((n46 != 1) = true → R (Value.bool false) H10) ∧
    ((n46 != 1) = false → M6 [] H10)))) ∧ ((n40 != 2) = false → M6 [] H9)))) ∧ ((n35 == 2) = false → M6 [] H8))))))) ∧ (∀ H11, M6 [] H11 → ∃ (I8 : List Value → Heap → Prop) (m8 : List Value → Heap →
    Nat), ((∃ n : Int, (Value.int .i64 0) = Value.int .i64 n) ∧ (∃ n : Int, (Value.int .i64 0) = Value.int .i64 n) ∧ I8 [(Value.int .i64 0), (Value.int .i64 0)] H11) ∧ (∀ (n11 : Int) (n12 : Int), ∀
    H12, I8 [(Value.int .i64 n11), (Value.int .i64 n12)] H12 → (((decide (n12 < 16)) = true → ∃ M9 : List Value → Heap → Prop, ((0 ≤ n12 ∧ n12 < ((16 : Nat) : Int)) ∧ ∃ (n56 : Int), cellAt H12
    (Addr.add ⟨g9, 0, none⟩ (Int.toNat n12 * 1)) = some (Value.int .u32 n56) ∧ (0 ≤ n12 ∧ n12 < ((16 : Nat) : Int)) ∧ ∃ (n59 : Int), cellAt H12 (Addr.add ⟨g4, 0, none⟩ (Int.toNat n12 * 1)) = some
    (Value.int .u32 n59) ∧ (((n56 != n59) = true → (∃ n : Int, (Value.int .i64 (IntKind.wrap .i64 (n11 + 1))) = Value.int .i64 n) ∧ M9 [(Value.int .i64 (IntKind.wrap .i64 (n11 + 1)))] H12) ∧ ((n56 !=
    n59) = false → (∃ n : Int, (Value.int .i64 n11) = Value.int .i64 n) ∧ M9 [(Value.int .i64 n11)] H12))) ∧ (∀ (n11_1 : Int), ∀ H13, M9 [(Value.int .i64 n11_1)] H13 → (∃ n : Int, (Value.int .i64
    n11_1) = Value.int .i64 n) ∧ (∃ n : Int, (Value.int .i64 (IntKind.wrap .i64 (n12 + 1))) = Value.int .i64 n) ∧ I8 [(Value.int .i64 n11_1), (Value.int .i64 (IntKind.wrap .i64 (n12 + 1)))] H13 ∧ m8
    [(Value.int .i64 n11_1), (Value.int .i64 (IntKind.wrap .i64 (n12 + 1)))] H13 < m8 [(Value.int .i64 n11), (Value.int .i64 n12)] H12)) ∧ ((decide (n12 < 16)) = false → ((n11 == 1) = true → (0 ≤
    (IntKind.wrap .i64 (narg2 - 1)) ∧ (IntKind.wrap .i64 (narg2 - 1)) < ((16 : Nat) : Int))) ∧ ∃ (n69 : Int), ((n11 == 1) = true → cellAt H12 (Addr.add ⟨g9, 0, none⟩ (Int.toNat (IntKind.wrap .i64
    (narg2 - 1)) * 1)) = some (Value.int .u32 n69)) ∧ ((cond (n11 == 1) (decide ((IntKind.wrap .i64 n69) ≥ narg3)) false) = true → (0 ≤ (IntKind.wrap .i64 (narg2 - 1)) ∧ (IntKind.wrap .i64 (narg2 -
    1)) < ((16 : Nat) : Int))) ∧ ∃ (n78 : Int), ((cond (n11 == 1) (decide ((IntKind.wrap .i64 n69) ≥ narg3)) false) = true → cellAt H12 (Addr.add ⟨g9, 0, none⟩ (Int.toNat (IntKind.wrap .i64 (narg2 -
    1)) * 1)) = some (Value.int .u32 n78)) ∧ ((cond (n11 == 1) (decide ((IntKind.wrap .i64 n69) ≥ narg3)) false) = true → (0 ≤ (IntKind.wrap .i64 (narg2 - 1)) ∧ (IntKind.wrap .i64 (narg2 - 1)) < ((16
    : Nat) : Int))) ∧ ∃ (n82 : Int), ((cond (n11 == 1) (decide ((IntKind.wrap .i64 n69) ≥ narg3)) false) = true → cellAt H12 (Addr.add ⟨g4, 0, none⟩ (Int.toNat (IntKind.wrap .i64 (narg2 - 1)) * 1)) =
    some (Value.int .u32 n82)) ∧ (((cond (cond (n11 == 1) (decide ((IntKind.wrap .i64 n69) ≥ narg3)) false) (decide (n78 > n82)) false) = true → CallsH Try.prog 11 ⟨[]⟩ H12 (fun r86 H14 => ∃ (b86 :
    Bool), r86 = (Value.bool b86) ∧ Ext H12 H14 ∧ R (Value.bool b86) H14)) ∧ ((cond (cond (n11 == 1) (decide ((IntKind.wrap .i64 n69) ≥ narg3)) false) (decide (n78 > n82)) false) = false → R
    (Value.bool false) H12)))))))))
theorem caravanlaw03_VectorNew.eq (csarg0 : Array Value) (csarg1 : Array Value) (narg2 : Int) (narg3 : Int) (R : Value → Heap → Prop) (H0 : Heap) : funcVC Try.prog tab fns [(6, []), (9, [(11, 3)])] [(8, [(11, 3), (12, 3)])] Try.f6 [(Value.agg csarg0), (Value.agg csarg1), (Value.int .i64 narg2), (Value.int .i64 narg3)] R H0 = caravanlaw03_VectorNew.vc csarg0 csarg1 narg2 narg3 R H0 := by kernel_rfl
theorem caravanlaw03_VectorNew.ok {csarg0 : Array Value} {csarg1 : Array Value} {narg2 : Int} {narg3 : Int} {R : Value → Heap → Prop} {H0 : Heap} (h : caravanlaw03_VectorNew.vc csarg0 csarg1 narg2 narg3 R H0) : CallsH Try.prog 6 ⟨[(Value.agg csarg0), (Value.agg csarg1), (Value.int .i64 narg2), (Value.int .i64 narg3)]⟩ H0 R :=
  funcVC_sound tab_ok fns_ok mixed_ok Try.func6 (cast (caravanlaw03_VectorNew.eq csarg0 csarg1 narg2 narg3 R H0).symm h)

/-- caravan/caravanlaw03.VectorPairs -/
def caravanlaw03_VectorPairs.vc (csarg0 : Array Value) (csarg1 : Array Value) (R : Value → Heap → Prop) (H0 : Heap) : Prop :=
  ∀ g2 H1, NewB H0 24 csarg0 g2 H1 → ∀ g3 H2, NewB H1 24 csarg1 g3 H2 → ∃ cs10, RdN H2 ⟨g2, 0, none⟩ 16 cs10 ∧ ∃ cs11, RdN H2 ⟨g3, 0, none⟩ 16 cs11 ∧ SemH Try.prog (Instr.buildSlice 32 2 ⟨[(0,
    (Value.agg cs10)), (1, (Value.agg cs11))]⟩) H2 (fun r12 H3 => ∃ (a12 : Option Addr) (len12 cap12 : Nat), r12 = (Value.slice a12 len12 cap12) ∧ CallsH Try.prog 12 ⟨[(Value.slice a12 len12 cap12)]⟩
    H3 (fun r13 H4 => ∃ (cs13 : Array Value), r13 = (Value.agg cs13) ∧ ∀ g5 H5, NewB H4 24 (zc 24) g5 H5 → ∃ H6, cs13.size = 16 ∧ wrN H5 ⟨g5, 0, none⟩ cs13.toList 0 = some H6 ∧ ∃ cs15, RdN H6 ⟨g2, 0,
    none⟩ 16 cs15 ∧ CallsH Try.prog 16 ⟨[(Value.agg cs15)]⟩ H6 (fun r16 H7 => ∃ (n16_0 : Int), ∃ (b16_1 : Bool), r16 = (Value.tuple ⟨[(Value.int .i64 n16_0), (Value.bool b16_1)]⟩) ∧ ∃ cs20, RdN H7
    ⟨g2, 0, none⟩ 16 cs20 ∧ CallsH Try.prog 17 ⟨[(Value.agg cs20)]⟩ H7 (fun r21 H8 => ∃ (n21_0 : Int), ∃ (b21_1 : Bool), r21 = (Value.tuple ⟨[(Value.int .i64 n21_0), (Value.bool b21_1)]⟩) ∧ ∃ cs24,
    RdN H8 ⟨g2, 0, none⟩ 16 cs24 ∧ ∃ cs25, RdN H8 ⟨g3, 0, none⟩ 16 cs25 ∧ ∃ cs27, RdN H8 ⟨g2, 0, none⟩ 16 cs27 ∧ ∃ cs28, RdN H8 ⟨g3, 0, none⟩ 16 cs28 ∧ CallsH Try.prog 14 ⟨[(Value.agg cs24),
    (Value.agg cs25)]⟩ H8 (fun r26 H9 => ∃ (n26 : Int), r26 = (Value.int .i64 n26) ∧ Ext H8 H9 ∧ CallsH Try.prog 18 ⟨[(Value.agg cs27), (Value.agg cs28)]⟩ H9 (fun r29 H10 => ∃ (n29 : Int), r29 =
    (Value.int .i64 n29) ∧ Ext H9 H10 ∧ ∃ cs32, ((n26 == n29) = true → RdN H10 ⟨g5, 0, none⟩ 16 cs32) ∧ ∃ cs33, ((n26 == n29) = true → RdN H10 ⟨g2, 0, none⟩ 16 cs33) ∧ ∃ cs34, ((n26 == n29) = true →
    RdN H10 ⟨g3, 0, none⟩ 16 cs34) ∧ (((n26 == n29) = true → SemH Try.prog (Instr.buildSlice 32 2 ⟨[(0, (Value.agg cs33)), (1, (Value.agg cs34))]⟩) H10 (fun r35 H11 => ∃ (a35 : Option Addr) (len35
    cap35 : Nat), r35 = (Value.slice a35 len35 cap35) ∧ Ext H10 H11 ∧ CallsH Try.prog 13 ⟨[(Value.slice a35 len35 cap35)]⟩ H11 (fun r36 H12 => ∃ (cs36 : Array Value), r36 = (Value.agg cs36) ∧ Ext H11
    H12 ∧ ∃ e37 : Bool, EqA Try.prog 24 cs32 cs36 e37 ∧ ∃ cs40, (e37 = true → RdN H12 ⟨g2, 0, none⟩ 16 cs40) ∧ ∃ cs42, (e37 = true → RdN H12 ⟨g2, 0, none⟩ 16 cs42) ∧ ((e37 = true → CallsH Try.prog 15
    ⟨[(Value.agg cs40)]⟩ H12 (fun r41 H13 => ∃ (n41 : Int), r41 = (Value.int .u64 n41) ∧ Ext H12 H13 ∧ CallsH Try.prog 19 ⟨[(Value.agg cs42)]⟩ H13 (fun r43 H14 => ∃ (n43 : Int), r43 = (Value.int .u64
    n43) ∧ Ext H13 H14 ∧ (((cond (cond (n41 == n43) (n16_0 == n21_0) false) (b16_1 == b21_1) false) = true → CallsH Try.prog 11 ⟨[]⟩ H14 (fun r57 H15 => ∃ (b57 : Bool), r57 = (Value.bool b57) ∧ Ext
    H14 H15 ∧ R (Value.bool b57) H15)) ∧ ((cond (cond (n41 == n43) (n16_0 == n21_0) false) (b16_1 == b21_1) false) = false → R (Value.bool false) H14))))) ∧ (e37 = false → R (Value.bool false)
    H12))))) ∧ ((n26 == n29) = false → R (Value.bool false) H10))))))))
theorem caravanlaw03_VectorPairs.eq (csarg0 : Array Value) (csarg1 : Array Value) (R : Value → Heap → Prop) (H0 : Heap) : funcVC Try.prog tab fns [] [] Try.f7 [(Value.agg csarg0), (Value.agg csarg1)] R H0 = caravanlaw03_VectorPairs.vc csarg0 csarg1 R H0 := by kernel_rfl
theorem caravanlaw03_VectorPairs.ok {csarg0 : Array Value} {csarg1 : Array Value} {R : Value → Heap → Prop} {H0 : Heap} (h : caravanlaw03_VectorPairs.vc csarg0 csarg1 R H0) : CallsH Try.prog 7 ⟨[(Value.agg csarg0), (Value.agg csarg1)]⟩ H0 R :=
  funcVC_sound tab_ok fns_ok mixed_ok Try.func7 (cast (caravanlaw03_VectorPairs.eq csarg0 csarg1 R H0).symm h)

/-- caravan/caravanlaw03.VectorKnown -/
def caravanlaw03_VectorKnown.vc  (R : Value → Heap → Prop) (H0 : Heap) : Prop :=
  CallsH Try.prog 11 ⟨[]⟩ H0 (fun r5 H1 => ∃ (b5 : Bool), r5 = (Value.bool b5) ∧ (((!b5) = true → R (Value.bool false) H1) ∧ ((!b5) = false → SemH Try.prog (Instr.buildSlice 48 2 ⟨[(0, (Value.int .u32
    0)), (1, (Value.int .u32 5))]⟩) H1 (fun r8 H2 => ∃ (a8 : Option Addr) (len8 cap8 : Nat), r8 = (Value.slice a8 len8 cap8) ∧ CallsH Try.prog 21 ⟨[(Value.slice a8 len8 cap8)]⟩ H2 (fun r9 H3 => ∃ (cs9
    : Array Value), r9 = (Value.agg cs9) ∧ SemH Try.prog (Instr.buildSlice 48 2 ⟨[(0, (Value.int .u32 0)), (1, (Value.int .u32 9))]⟩) H3 (fun r10 H4 => ∃ (a10 : Option Addr) (len10 cap10 : Nat), r10 =
    (Value.slice a10 len10 cap10) ∧ CallsH Try.prog 21 ⟨[(Value.slice a10 len10 cap10)]⟩ H4 (fun r11 H5 => ∃ (cs11 : Array Value), r11 = (Value.agg cs11) ∧ CallsH Try.prog 20 ⟨[(Value.agg cs9),
    (Value.int .i64 2), (Value.int .i64 9), (Value.agg cs11)]⟩ H5 (fun r12 H6 => ∃ (b12 : Bool), r12 = (Value.bool b12) ∧ (((!b12) = true → R (Value.bool false) H6) ∧ ((!b12) = false → SemH Try.prog
    (Instr.buildSlice 48 2 ⟨[(0, (Value.int .u32 0)), (1, (Value.int .u32 5))]⟩) H6 (fun r16 H7 => ∃ (a16 : Option Addr) (len16 cap16 : Nat), r16 = (Value.slice a16 len16 cap16) ∧ CallsH Try.prog 21
    ⟨[(Value.slice a16 len16 cap16)]⟩ H7 (fun r17 H8 => ∃ (cs17 : Array Value), r17 = (Value.agg cs17) ∧ SemH Try.prog (Instr.buildSlice 48 2 ⟨[(0, (Value.int .u32 1)), (1, (Value.int .u32 5))]⟩) H8
    (fun r18 H9 => ∃ (a18 : Option Addr) (len18 cap18 : Nat), r18 = (Value.slice a18 len18 cap18) ∧ CallsH Try.prog 21 ⟨[(Value.slice a18 len18 cap18)]⟩ H9 (fun r19 H10 => ∃ (cs19 : Array Value), r19
    = (Value.agg cs19) ∧ CallsH Try.prog 20 ⟨[(Value.agg cs17), (Value.int .i64 1), (Value.int .i64 0), (Value.agg cs19)]⟩ H10 (fun r20 H11 => ∃ (b20 : Bool), r20 = (Value.bool b20) ∧ (((!b20) = true
    → R (Value.bool false) H11) ∧ ((!b20) = false → SemH Try.prog (Instr.buildSlice 48 1 ⟨[(0, (Value.int .u32 1))]⟩) H11 (fun r24 H12 => ∃ (a24 : Option Addr) (len24 cap24 : Nat), r24 = (Value.slice
    a24 len24 cap24) ∧ CallsH Try.prog 21 ⟨[(Value.slice a24 len24 cap24)]⟩ H12 (fun r25 H13 => ∃ (cs25 : Array Value), r25 = (Value.agg cs25) ∧ CallsH Try.prog 22 ⟨[(Value.agg cs25), (Value.int .i64
    0), (Value.int .i64 1), (Value.int .i64 2)]⟩ H13 (fun r26 H14 => ∃ (b26 : Bool), r26 = (Value.bool b26) ∧ (((!b26) = true → R (Value.bool false) H14) ∧ ((!b26) = false → SemH Try.prog
    (Instr.buildSlice 48 1 ⟨[(0, (Value.int .u32 1))]⟩) H14 (fun r30 H15 => ∃ (a30 : Option Addr) (len30 cap30 : Nat), r30 = (Value.slice a30 len30 cap30) ∧ CallsH Try.prog 21 ⟨[(Value.slice a30 len30
    cap30)]⟩ H15 (fun r31 H16 => ∃ (cs31 : Array Value), r31 = (Value.agg cs31) ∧ CallsH Try.prog 22 ⟨[(Value.agg cs31), (Value.int .i64 17), (Value.int .i64 1), (Value.int .i64 2)]⟩ H16 (fun r32 H17
    => ∃ (b32 : Bool), r32 = (Value.bool b32) ∧ (((!b32) = true → R (Value.bool false) H17) ∧ ((!b32) = false → SemH Try.prog (Instr.buildSlice 48 1 ⟨[(0, (Value.int .u32 1))]⟩) H17 (fun r36 H18 => ∃
    (a36 : Option Addr) (len36 cap36 : Nat), r36 = (Value.slice a36 len36 cap36) ∧ CallsH Try.prog 21 ⟨[(Value.slice a36 len36 cap36)]⟩ H18 (fun r37 H19 => ∃ (cs37 : Array Value), r37 = (Value.agg
    cs37) ∧ CallsH Try.prog 22 ⟨[(Value.agg cs37), (Value.int .i64 1), (Value.int .i64 (-1)), (Value.int .i64 2)]⟩ H19 (fun r38 H20 => ∃ (b38 : Bool), r38 = (Value.bool b38) ∧ (((!b38) = true → R
    (Value.bool false) H20) ∧ ((!b38) = false → SemH Try.prog (Instr.buildSlice 48 1 ⟨[(0, (Value.int .u32 4294967295))]⟩) H20 (fun r41 H21 => ∃ (a41 : Option Addr) (len41 cap41 : Nat), r41 =
    (Value.slice a41 len41 cap41) ∧ CallsH Try.prog 21 ⟨[(Value.slice a41 len41 cap41)]⟩ H21 (fun r42 H22 => ∃ (cs42 : Array Value), r42 = (Value.agg cs42) ∧ CallsH Try.prog 22 ⟨[(Value.agg cs42),
    (Value.int .i64 1), (Value.int .i64 1), (Value.int .i64 13)]⟩ H22 (fun r43 H23 => ∃ (b43 : Bool), r43 = (Value.bool b43) ∧ (((!b43) = true → R (Value.bool false) H23) ∧ ((!b43) = false → CallsH
    Try.prog 21 ⟨[(Value.slice none 0 0)]⟩ H23 (fun r46 H24 => ∃ (cs46 : Array Value), r46 = (Value.agg cs46) ∧ CallsH Try.prog 22 ⟨[(Value.agg cs46), (Value.int .i64 1), (Value.int .i64 4294967296),
    (Value.int .i64 13)]⟩ H24 (fun r47 H25 => ∃ (b47 : Bool), r47 = (Value.bool b47) ∧ (((!b47) = true → R (Value.bool false) H25) ∧ ((!b47) = false → CallsH Try.prog 21 ⟨[(Value.slice none 0 0)]⟩ H25
    (fun r51 H26 => ∃ (cs51 : Array Value), r51 = (Value.agg cs51) ∧ SemH Try.prog (Instr.buildSlice 48 1 ⟨[(0, (Value.int .u32 4294967295))]⟩) H26 (fun r52 H27 => ∃ (a52 : Option Addr) (len52 cap52 :
    Nat), r52 = (Value.slice a52 len52 cap52) ∧ CallsH Try.prog 21 ⟨[(Value.slice a52 len52 cap52)]⟩ H27 (fun r53 H28 => ∃ (cs53 : Array Value), r53 = (Value.agg cs53) ∧ CallsH Try.prog 20
    ⟨[(Value.agg cs51), (Value.int .i64 1), (Value.int .i64 4294967295), (Value.agg cs53)]⟩ H28 (fun r54 H29 => ∃ (b54 : Bool), r54 = (Value.bool b54) ∧ (((!b54) = true → R (Value.bool false) H29) ∧
    ((!b54) = false → SemH Try.prog (Instr.buildSlice 48 2 ⟨[(0, (Value.int .u32 0)), (1, (Value.int .u32 5))]⟩) H29 (fun r58 H30 => ∃ (a58 : Option Addr) (len58 cap58 : Nat), r58 = (Value.slice a58
    len58 cap58) ∧ CallsH Try.prog 21 ⟨[(Value.slice a58 len58 cap58)]⟩ H30 (fun r59 H31 => ∃ (cs59 : Array Value), r59 = (Value.agg cs59) ∧ CallsH Try.prog 16 ⟨[(Value.agg cs59)]⟩ H31 (fun r60 H32 =>
    ∃ (n60_0 : Int), ∃ (b60_1 : Bool), r60 = (Value.tuple ⟨[(Value.int .i64 n60_0), (Value.bool b60_1)]⟩) ∧ CallsH Try.prog 21 ⟨[(Value.slice none 0 0)]⟩ H32 (fun r64 H33 => ∃ (cs64 : Array Value),
    r64 = (Value.agg cs64) ∧ CallsH Try.prog 16 ⟨[(Value.agg cs64)]⟩ H33 (fun r65 H34 => ∃ (n65_0 : Int), ∃ (b65_1 : Bool), r65 = (Value.tuple ⟨[(Value.int .i64 n65_0), (Value.bool b65_1)]⟩) ∧ SemH
    Try.prog (Instr.buildSlice 48 2 ⟨[(0, (Value.int .u32 1)), (1, (Value.int .u32 2))]⟩) H34 (fun r68 H35 => ∃ (a68 : Option Addr) (len68 cap68 : Nat), r68 = (Value.slice a68 len68 cap68) ∧ CallsH
    Try.prog 21 ⟨[(Value.slice a68 len68 cap68)]⟩ H35 (fun r69 H36 => ∃ (cs69 : Array Value), r69 = (Value.agg cs69) ∧ SemH Try.prog (Instr.buildSlice 48 2 ⟨[(0, (Value.int .u32 1)), (1, (Value.int
    .u32 2))]⟩) H36 (fun r70 H37 => ∃ (a70 : Option Addr) (len70 cap70 : Nat), r70 = (Value.slice a70 len70 cap70) ∧ CallsH Try.prog 21 ⟨[(Value.slice a70 len70 cap70)]⟩ H37 (fun r71 H38 => ∃ (cs71 :
    Array Value), r71 = (Value.agg cs71) ∧ CallsH Try.prog 14 ⟨[(Value.agg cs69), (Value.agg cs71)]⟩ H38 (fun r72 H39 => ∃ (n72 : Int), r72 = (Value.int .i64 n72) ∧ (((n72 == 0) = true → SemH Try.prog
    (Instr.buildSlice 48 2 ⟨[(0, (Value.int .u32 1)), (1, (Value.int .u32 2))]⟩) H39 (fun r75 H40 => ∃ (a75 : Option Addr) (len75 cap75 : Nat), r75 = (Value.slice a75 len75 cap75) ∧ CallsH Try.prog 21
    ⟨[(Value.slice a75 len75 cap75)]⟩ H40 (fun r76 H41 => ∃ (cs76 : Array Value), r76 = (Value.agg cs76) ∧ SemH Try.prog (Instr.buildSlice 48 2 ⟨[(0, (Value.int .u32 1)), (1, (Value.int .u32 1))]⟩)
    H41 (fun r77 H42 => ∃ (a77 : Option Addr) (len77 cap77 : Nat), r77 = (Value.slice a77 len77 cap77) ∧ CallsH Try.prog 21 ⟨[(Value.slice a77 len77 cap77)]⟩ H42 (fun r78 H43 => ∃ (cs78 : Array
    Value), r78 = (Value.agg cs78) ∧ CallsH Try.prog 14 ⟨[(Value.agg cs76), (Value.agg cs78)]⟩ H43 (fun r79 H44 => ∃ (n79 : Int), r79 = (Value.int .i64 n79) ∧ (((n79 == 1) = true → CallsH Try.prog 21
    ⟨[(Value.slice none 0 0)]⟩ H44 (fun r83 H45 => ∃ (cs83 : Array Value), r83 = (Value.agg cs83) ∧ SemH Try.prog (Instr.buildSlice 48 2 ⟨[(0, (Value.int .u32 0)), (1, (Value.int .u32 1))]⟩) H45 (fun
    r84 H46 => ∃ (a84 : Option Addr) (len84 cap84 : Nat), r84 = (Value.slice a84 len84 cap84) ∧ CallsH Try.prog 21 ⟨[(Value.slice a84 len84 cap84)]⟩ H46 (fun r85 H47 => ∃ (cs85 : Array Value), r85 =
    (Value.agg cs85) ∧ CallsH Try.prog 14 ⟨[(Value.agg cs83), (Value.agg cs85)]⟩ H47 (fun r86 H48 => ∃ (n86 : Int), r86 = (Value.int .i64 n86) ∧ (((n86 == (-1)) = true → CallsH Try.prog 12
    ⟨[(Value.slice none 0 0)]⟩ H48 (fun r90 H49 => ∃ (cs90 : Array Value), r90 = (Value.agg cs90) ∧ CallsH Try.prog 21 ⟨[(Value.slice none 0 0)]⟩ H49 (fun r91 H50 => ∃ (cs91 : Array Value), r91 =
    (Value.agg cs91) ∧ ∃ e92 : Bool, EqA Try.prog 24 cs90 cs91 e92 ∧ R (Value.bool (cond (cond (cond e92 (n60_0 == 2) false) b60_1 false) (!b65_1) false)) H50))) ∧ ((n86 == (-1)) = false → R
    (Value.bool false) H48))))))) ∧ ((n79 == 1) = false → R (Value.bool false) H44)))))))) ∧ ((n72 == 0) = false → R (Value.bool false) H39)))))))))))))))))))))))))))))))))))))))))))))))))))))))))))
theorem caravanlaw03_VectorKnown.eq  (R : Value → Heap → Prop) (H0 : Heap) : funcVC Try.prog tab fns [] [] Try.f8 [] R H0 = caravanlaw03_VectorKnown.vc  R H0 := by kernel_rfl
theorem caravanlaw03_VectorKnown.ok  {R : Value → Heap → Prop} {H0 : Heap} (h : caravanlaw03_VectorKnown.vc  R H0) : CallsH Try.prog 8 ⟨[]⟩ H0 R :=
  funcVC_sound tab_ok fns_ok mixed_ok Try.func8 (cast (caravanlaw03_VectorKnown.eq  R H0).symm h)

/-- caravan/vector.Bump -/
def vector_Bump.vc (csarg0 : Array Value) (narg1 : Int) (narg2 : Int) (R : Value → Heap → Prop) (H0 : Heap) : Prop :=
  ∀ g3 H1, NewB H0 24 csarg0 g3 H1 → ∀ g6 H2, NewB H1 24 (zc 24) g6 H2 → (((cond (cond (decide (narg1 < 1)) true (decide (narg1 > 16))) true (decide (narg2 < 0))) = true → ∃ (cs19 : Array Value), PureV
    Try.prog (Instr.build 24 ⟨[]⟩) (Value.agg cs19) ∧ ∃ H3, cs19.size = 16 ∧ wrN H2 ⟨g6, 0, none⟩ cs19.toList 0 = some H3 ∧ ∃ csres, RdN H3 ⟨g6, 0, none⟩ 16 csres ∧ R (Value.tuple ⟨[(Value.agg csres),
    (Value.int .i64 2)]⟩) H3) ∧ ((cond (cond (decide (narg1 < 1)) true (decide (narg1 > 16))) true (decide (narg2 < 0))) = false → (0 ≤ (IntKind.wrap .i64 (narg1 - 1)) ∧ (IntKind.wrap .i64 (narg1 -
    1)) < ((16 : Nat) : Int)) ∧ ∃ ad24, (some (Addr.add ⟨g3, 0, none⟩ (Int.toNat (IntKind.wrap .i64 (narg1 - 1)) * 1))) = some ad24 ∧ ∃ (n25 : Int), cellAt H2 ad24 = some (Value.int .u32 n25) ∧
    (((cond (n25 == 4294967295) true (decide (narg2 > 4294967295))) = true → ∃ (cs31 : Array Value), PureV Try.prog (Instr.build 24 ⟨[]⟩) (Value.agg cs31) ∧ ∃ H4, cs31.size = 16 ∧ wrN H2 ⟨g6, 0, none⟩
    cs31.toList 0 = some H4 ∧ ∃ csres_1, RdN H4 ⟨g6, 0, none⟩ 16 csres_1 ∧ R (Value.tuple ⟨[(Value.agg csres_1), (Value.int .i64 13)]⟩) H4) ∧ ((cond (n25 == 4294967295) true (decide (narg2 >
    4294967295))) = false → ∃ ad34, (some (Addr.add ⟨g3, 0, none⟩ (Int.toNat (IntKind.wrap .i64 (narg1 - 1)) * 1))) = some ad34 ∧ ∃ (n35 : Int), cellAt H2 ad34 = some (Value.int .u32 n35) ∧ ∃ ad40,
    (some (Addr.add ⟨g3, 0, none⟩ (Int.toNat (IntKind.wrap .i64 (narg1 - 1)) * 1))) = some ad40 ∧ ∃ H5, wr1 H2 ad40 (Value.int .u32 (if (IntKind.wrap .u32 narg2) > (IntKind.wrap .u32 (n35 + 1)) then
    (IntKind.wrap .u32 narg2) else (IntKind.wrap .u32 (n35 + 1)))) = some H5 ∧ ∃ cs41, RdN H5 ⟨g3, 0, none⟩ 16 cs41 ∧ ∃ H6, cs41.size = 16 ∧ wrN H5 ⟨g6, 0, none⟩ cs41.toList 0 = some H6 ∧ ∃ csres_2,
    RdN H6 ⟨g6, 0, none⟩ 16 csres_2 ∧ R (Value.tuple ⟨[(Value.agg csres_2), (Value.int .i64 0)]⟩) H6))))
theorem vector_Bump.eq (csarg0 : Array Value) (narg1 : Int) (narg2 : Int) (R : Value → Heap → Prop) (H0 : Heap) : funcVC Try.prog tab fns [] [] Try.f9 [(Value.agg csarg0), (Value.int .i64 narg1), (Value.int .i64 narg2)] R H0 = vector_Bump.vc csarg0 narg1 narg2 R H0 := by kernel_rfl
theorem vector_Bump.ok {csarg0 : Array Value} {narg1 : Int} {narg2 : Int} {R : Value → Heap → Prop} {H0 : Heap} (h : vector_Bump.vc csarg0 narg1 narg2 R H0) : CallsH Try.prog 9 ⟨[(Value.agg csarg0), (Value.int .i64 narg1), (Value.int .i64 narg2)]⟩ H0 R :=
  funcVC_sound tab_ok fns_ok mixed_ok Try.func9 (cast (vector_Bump.eq csarg0 narg1 narg2 R H0).symm h)

/-- caravan/caravanref03.Bump -/
def caravanref03_Bump.vc (csarg0 : Array Value) (narg1 : Int) (narg2 : Int) (R : Value → Heap → Prop) (H0 : Heap) : Prop :=
  ∀ g3 H1, NewB H0 24 csarg0 g3 H1 → ∀ g6 H2, NewB H1 24 (zc 24) g6 H2 → (((cond (cond (decide (narg1 < 1)) true (decide (narg1 > 16))) true (decide (narg2 < 0))) = true → ∃ (cs20 : Array Value), PureV
    Try.prog (Instr.build 24 ⟨[]⟩) (Value.agg cs20) ∧ ∃ H3, cs20.size = 16 ∧ wrN H2 ⟨g6, 0, none⟩ cs20.toList 0 = some H3 ∧ ∃ csres, RdN H3 ⟨g6, 0, none⟩ 16 csres ∧ R (Value.tuple ⟨[(Value.agg csres),
    (Value.int .i64 2)]⟩) H3) ∧ ((cond (cond (decide (narg1 < 1)) true (decide (narg1 > 16))) true (decide (narg2 < 0))) = false → (0 ≤ (IntKind.wrap .i64 (narg1 - 1)) ∧ (IntKind.wrap .i64 (narg1 -
    1)) < ((16 : Nat) : Int)) ∧ ∃ (n24 : Int), cellAt H2 (Addr.add ⟨g3, 0, none⟩ (Int.toNat (IntKind.wrap .i64 (narg1 - 1)) * 1)) = some (Value.int .u32 n24) ∧ (((cond ((IntKind.wrap .i64 n24) ==
    4294967295) true (decide (narg2 > 4294967295))) = true → ∃ (cs32 : Array Value), PureV Try.prog (Instr.build 24 ⟨[]⟩) (Value.agg cs32) ∧ ∃ H4, cs32.size = 16 ∧ wrN H2 ⟨g6, 0, none⟩ cs32.toList 0 =
    some H4 ∧ ∃ csres_1, RdN H4 ⟨g6, 0, none⟩ 16 csres_1 ∧ R (Value.tuple ⟨[(Value.agg csres_1), (Value.int .i64 13)]⟩) H4) ∧ ((cond ((IntKind.wrap .i64 n24) == 4294967295) true (decide (narg2 >
    4294967295))) = false → ∃ cs33, RdN H2 ⟨g3, 0, none⟩ 16 cs33 ∧ ∀ g9 H5, NewB H2 24 (zc 24) g9 H5 → ∃ H6, cs33.size = 16 ∧ wrN H5 ⟨g9, 0, none⟩ cs33.toList 0 = some H6 ∧ (((decide ((IntKind.wrap
    .i64 ((IntKind.wrap .i64 n24) + 1)) > narg2)) = true → (0 ≤ (IntKind.wrap .i64 (narg1 - 1)) ∧ (IntKind.wrap .i64 (narg1 - 1)) < ((16 : Nat) : Int)) ∧ ∃ H7, wr1 H6 (Addr.add ⟨g9, 0, none⟩
    (Int.toNat (IntKind.wrap .i64 (narg1 - 1)) * 1)) (Value.int .u32 (IntKind.wrap .u32 (IntKind.wrap .i64 ((IntKind.wrap .i64 n24) + 1)))) = some H7 ∧ ∃ cs49, RdN H7 ⟨g9, 0, none⟩ 16 cs49 ∧ ∃ H8,
    cs49.size = 16 ∧ wrN H7 ⟨g6, 0, none⟩ cs49.toList 0 = some H8 ∧ ∃ csres_2, RdN H8 ⟨g6, 0, none⟩ 16 csres_2 ∧ R (Value.tuple ⟨[(Value.agg csres_2), (Value.int .i64 0)]⟩) H8) ∧ ((decide
    ((IntKind.wrap .i64 ((IntKind.wrap .i64 n24) + 1)) > narg2)) = false → (0 ≤ (IntKind.wrap .i64 (narg1 - 1)) ∧ (IntKind.wrap .i64 (narg1 - 1)) < ((16 : Nat) : Int)) ∧ ∃ H9, wr1 H6 (Addr.add ⟨g9, 0,
    none⟩ (Int.toNat (IntKind.wrap .i64 (narg1 - 1)) * 1)) (Value.int .u32 (IntKind.wrap .u32 narg2)) = some H9 ∧ ∃ cs49_1, RdN H9 ⟨g9, 0, none⟩ 16 cs49_1 ∧ ∃ H10, cs49_1.size = 16 ∧ wrN H9 ⟨g6, 0,
    none⟩ cs49_1.toList 0 = some H10 ∧ ∃ csres_3, RdN H10 ⟨g6, 0, none⟩ 16 csres_3 ∧ R (Value.tuple ⟨[(Value.agg csres_3), (Value.int .i64 0)]⟩) H10))))))
theorem caravanref03_Bump.eq (csarg0 : Array Value) (narg1 : Int) (narg2 : Int) (R : Value → Heap → Prop) (H0 : Heap) : funcVC Try.prog tab fns [] [] Try.f10 [(Value.agg csarg0), (Value.int .i64 narg1), (Value.int .i64 narg2)] R H0 = caravanref03_Bump.vc csarg0 narg1 narg2 R H0 := by kernel_rfl
theorem caravanref03_Bump.ok {csarg0 : Array Value} {narg1 : Int} {narg2 : Int} {R : Value → Heap → Prop} {H0 : Heap} (h : caravanref03_Bump.vc csarg0 narg1 narg2 R H0) : CallsH Try.prog 10 ⟨[(Value.agg csarg0), (Value.int .i64 narg1), (Value.int .i64 narg2)]⟩ H0 R :=
  funcVC_sound tab_ok fns_ok mixed_ok Try.func10 (cast (caravanref03_Bump.eq csarg0 narg1 narg2 R H0).symm h)

/-- caravan/caravanlaw03.awake -/
def caravanlaw03_awake.vc  (R : Value → Heap → Prop) (H0 : Heap) : Prop :=
  SemH Try.prog (Instr.buildSlice 48 2 ⟨[(0, (Value.int .u32 0)), (1, (Value.int .u32 5))]⟩) H0 (fun r1 H1 => ∃ (a1 : Option Addr) (len1 cap1 : Nat), r1 = (Value.slice a1 len1 cap1) ∧ CallsH Try.prog 21
    ⟨[(Value.slice a1 len1 cap1)]⟩ H1 (fun r2 H2 => ∃ (cs2 : Array Value), r2 = (Value.agg cs2) ∧ SemH Try.prog (Instr.buildSlice 48 2 ⟨[(0, (Value.int .u32 0)), (1, (Value.int .u32 6))]⟩) H2 (fun r3
    H3 => ∃ (a3 : Option Addr) (len3 cap3 : Nat), r3 = (Value.slice a3 len3 cap3) ∧ CallsH Try.prog 21 ⟨[(Value.slice a3 len3 cap3)]⟩ H3 (fun r4 H4 => ∃ (cs4 : Array Value), r4 = (Value.agg cs4) ∧
    CallsH Try.prog 20 ⟨[(Value.agg cs2), (Value.int .i64 2), (Value.int .i64 3), (Value.agg cs4)]⟩ H4 (fun r5 H5 => ∃ (b5 : Bool), r5 = (Value.bool b5) ∧ ((b5 = true → SemH Try.prog (Instr.buildSlice
    48 2 ⟨[(0, (Value.int .u32 1)), (1, (Value.int .u32 0))]⟩) H5 (fun r7 H6 => ∃ (a7 : Option Addr) (len7 cap7 : Nat), r7 = (Value.slice a7 len7 cap7) ∧ CallsH Try.prog 21 ⟨[(Value.slice a7 len7
    cap7)]⟩ H6 (fun r8 H7 => ∃ (cs8 : Array Value), r8 = (Value.agg cs8) ∧ SemH Try.prog (Instr.buildSlice 48 2 ⟨[(0, (Value.int .u32 0)), (1, (Value.int .u32 1))]⟩) H7 (fun r9 H8 => ∃ (a9 : Option
    Addr) (len9 cap9 : Nat), r9 = (Value.slice a9 len9 cap9) ∧ CallsH Try.prog 21 ⟨[(Value.slice a9 len9 cap9)]⟩ H8 (fun r10 H9 => ∃ (cs10 : Array Value), r10 = (Value.agg cs10) ∧ CallsH Try.prog 14
    ⟨[(Value.agg cs8), (Value.agg cs10)]⟩ H9 (fun r11 H10 => ∃ (n11 : Int), r11 = (Value.int .i64 n11) ∧ (((n11 == 2) = true → SemH Try.prog (Instr.buildSlice 48 2 ⟨[(0, (Value.int .u32 1)), (1,
    (Value.int .u32 5))]⟩) H10 (fun r15 H11 => ∃ (a15 : Option Addr) (len15 cap15 : Nat), r15 = (Value.slice a15 len15 cap15) ∧ CallsH Try.prog 21 ⟨[(Value.slice a15 len15 cap15)]⟩ H11 (fun r16 H12 =>
    ∃ (cs16 : Array Value), r16 = (Value.agg cs16) ∧ SemH Try.prog (Instr.buildSlice 48 2 ⟨[(0, (Value.int .u32 3)), (1, (Value.int .u32 2))]⟩) H12 (fun r17 H13 => ∃ (a17 : Option Addr) (len17 cap17 :
    Nat), r17 = (Value.slice a17 len17 cap17) ∧ CallsH Try.prog 21 ⟨[(Value.slice a17 len17 cap17)]⟩ H13 (fun r18 H14 => ∃ (cs18 : Array Value), r18 = (Value.agg cs18) ∧ SemH Try.prog
    (Instr.buildSlice 32 2 ⟨[(0, (Value.agg cs16)), (1, (Value.agg cs18))]⟩) H14 (fun r19 H15 => ∃ (a19 : Option Addr) (len19 cap19 : Nat), r19 = (Value.slice a19 len19 cap19) ∧ CallsH Try.prog 12
    ⟨[(Value.slice a19 len19 cap19)]⟩ H15 (fun r20 H16 => ∃ (cs20 : Array Value), r20 = (Value.agg cs20) ∧ SemH Try.prog (Instr.buildSlice 48 2 ⟨[(0, (Value.int .u32 3)), (1, (Value.int .u32 5))]⟩)
    H16 (fun r21 H17 => ∃ (a21 : Option Addr) (len21 cap21 : Nat), r21 = (Value.slice a21 len21 cap21) ∧ CallsH Try.prog 21 ⟨[(Value.slice a21 len21 cap21)]⟩ H17 (fun r22 H18 => ∃ (cs22 : Array
    Value), r22 = (Value.agg cs22) ∧ ∃ e23 : Bool, EqA Try.prog 24 cs20 cs22 e23 ∧ ((e23 = true → SemH Try.prog (Instr.buildSlice 48 2 ⟨[(0, (Value.int .u32 1)), (1, (Value.int .u32 5))]⟩) H18 (fun
    r26 H19 => ∃ (a26 : Option Addr) (len26 cap26 : Nat), r26 = (Value.slice a26 len26 cap26) ∧ CallsH Try.prog 21 ⟨[(Value.slice a26 len26 cap26)]⟩ H19 (fun r27 H20 => ∃ (cs27 : Array Value), r27 =
    (Value.agg cs27) ∧ CallsH Try.prog 15 ⟨[(Value.agg cs27)]⟩ H20 (fun r28 H21 => ∃ (n28 : Int), r28 = (Value.int .u64 n28) ∧ R (Value.bool (n28 == 6)) H21)))) ∧ (e23 = false → R (Value.bool false)
    H18))))))))))) ∧ ((n11 == 2) = false → R (Value.bool false) H10)))))))) ∧ (b5 = false → R (Value.bool false) H5)))))))
theorem caravanlaw03_awake.eq  (R : Value → Heap → Prop) (H0 : Heap) : funcVC Try.prog tab fns [] [] Try.f11 [] R H0 = caravanlaw03_awake.vc  R H0 := by kernel_rfl
theorem caravanlaw03_awake.ok  {R : Value → Heap → Prop} {H0 : Heap} (h : caravanlaw03_awake.vc  R H0) : CallsH Try.prog 11 ⟨[]⟩ H0 R :=
  funcVC_sound tab_ok fns_ok mixed_ok Try.func11 (cast (caravanlaw03_awake.eq  R H0).symm h)

/-- caravan/vector.Merge -/
def vector_Merge.vc (aarg0 : Option Addr) (lenarg0 caparg0 : Nat) (R : Value → Heap → Prop) (H0 : Heap) : Prop :=
  ∀ g2 H1, NewB H0 24 (zc 24) g2 H1 → ∃ (I2 : List Value → Heap → Prop) (m2 : List Value → Heap → Nat), ((∃ n : Int, (Value.int .i64 0) = Value.int .i64 n) ∧ I2 [(Value.int .i64 0)] H1) ∧ (∀ (n8 : Int),
    ∀ H2, I2 [(Value.int .i64 n8)] H2 → (((decide (n8 < ((lenarg0 : Nat) : Int))) = true → ∃ ad10, (aarg0 = some ad10 ∧ 0 ≤ n8 ∧ n8 < ((lenarg0 : Nat) : Int)) ∧ ∃ cs11, RdN H2 (Addr.add ad10
    (Int.toNat n8 * 16)) 16 cs11 ∧ ∀ g4 H3, NewB H2 24 (zc 24) g4 H3 → ∃ H4, cs11.size = 16 ∧ wrN H3 ⟨g4, 0, none⟩ cs11.toList 0 = some H4 ∧ ∃ (I5 : List Value → Heap → Prop) (m5 : List Value → Heap →
    Nat), ((∃ n : Int, (Value.int .i64 0) = Value.int .i64 n) ∧ I5 [(Value.int .i64 0)] H4) ∧ (∀ (n12 : Int), ∀ H5, I5 [(Value.int .i64 n12)] H5 → (((decide (n12 < 16)) = true → (0 ≤ n12 ∧ n12 < ((16
    : Nat) : Int)) ∧ ∃ (n18 : Int), cellAt H5 (Addr.add ⟨g2, 0, none⟩ (Int.toNat n12 * 1)) = some (Value.int .u32 n18) ∧ (0 ≤ n12 ∧ n12 < ((16 : Nat) : Int)) ∧ ∃ (n21 : Int), cellAt H5 (Addr.add ⟨g4,
    0, none⟩ (Int.toNat n12 * 1)) = some (Value.int .u32 n21) ∧ (0 ≤ n12 ∧ n12 < ((16 : Nat) : Int)) ∧ ∃ H6, wr1 H5 (Addr.add ⟨g2, 0, none⟩ (Int.toNat n12 * 1)) (Value.int .u32 (if n21 > n18 then n21
    else n18)) = some H6 ∧ (∃ n : Int, (Value.int .i64 (IntKind.wrap .i64 (n12 + 1))) = Value.int .i64 n) ∧ I5 [(Value.int .i64 (IntKind.wrap .i64 (n12 + 1)))] H6 ∧ m5 [(Value.int .i64 (IntKind.wrap
    .i64 (n12 + 1)))] H6 < m5 [(Value.int .i64 n12)] H5) ∧ ((decide (n12 < 16)) = false → (∃ n : Int, (Value.int .i64 (IntKind.wrap .i64 (n8 + 1))) = Value.int .i64 n) ∧ I2 [(Value.int .i64
    (IntKind.wrap .i64 (n8 + 1)))] H5 ∧ m2 [(Value.int .i64 (IntKind.wrap .i64 (n8 + 1)))] H5 < m2 [(Value.int .i64 n8)] H2)))) ∧ ((decide (n8 < ((lenarg0 : Nat) : Int))) = false → ∃ cs26, RdN H2 ⟨g2,
    0, none⟩ 16 cs26 ∧ ∃ H7, cs26.size = 16 ∧ wrN H2 ⟨g2, 0, none⟩ cs26.toList 0 = some H7 ∧ ∃ csres, RdN H7 ⟨g2, 0, none⟩ 16 csres ∧ R (Value.agg csres) H7)))
theorem vector_Merge.eq (aarg0 : Option Addr) (lenarg0 caparg0 : Nat) (R : Value → Heap → Prop) (H0 : Heap) : funcVC Try.prog tab fns [] [(2, [(8, 3)]), (5, [(12, 3)])] Try.f12 [(Value.slice aarg0 lenarg0 caparg0)] R H0 = vector_Merge.vc aarg0 lenarg0 caparg0 R H0 := by kernel_rfl
theorem vector_Merge.ok {aarg0 : Option Addr} {lenarg0 caparg0 : Nat} {R : Value → Heap → Prop} {H0 : Heap} (h : vector_Merge.vc aarg0 lenarg0 caparg0 R H0) : CallsH Try.prog 12 ⟨[(Value.slice aarg0 lenarg0 caparg0)]⟩ H0 R :=
  funcVC_sound tab_ok fns_ok mixed_ok Try.func12 (cast (vector_Merge.eq aarg0 lenarg0 caparg0 R H0).symm h)

/-- caravan/caravanref03.Merge -/
def caravanref03_Merge.vc (aarg0 : Option Addr) (lenarg0 caparg0 : Nat) (R : Value → Heap → Prop) (H0 : Heap) : Prop :=
  ∀ g2 H1, NewB H0 24 (zc 24) g2 H1 → ∀ g3 H2, NewB H1 24 (zc 24) g3 H2 → ∃ (I3 : List Value → Heap → Prop) (m3 : List Value → Heap → Nat), ((∃ n : Int, (Value.int .i64 0) = Value.int .i64 n) ∧ I3
    [(Value.int .i64 0)] H2) ∧ (∀ (n4 : Int), ∀ H3, I3 [(Value.int .i64 n4)] H3 → (((decide (n4 < 16)) = true → ∃ (I6 : List Value → Heap → Prop) (m6 : List Value → Heap → Nat), ((∃ n : Int,
    (Value.int .i64 0) = Value.int .i64 n) ∧ I6 [(Value.int .i64 0)] H3) ∧ (∀ (n5 : Int), ∀ H4, I6 [(Value.int .i64 n5)] H4 → (((decide (n5 < ((lenarg0 : Nat) : Int))) = true → ∃ ad19, (aarg0 = some
    ad19 ∧ 0 ≤ n5 ∧ n5 < ((lenarg0 : Nat) : Int)) ∧ (0 ≤ n4 ∧ n4 < ((16 : Nat) : Int)) ∧ ∃ (n21 : Int), cellAt H4 (Addr.add (Addr.add ad19 (Int.toNat n5 * 16)) (Int.toNat n4 * 1)) = some (Value.int
    .u32 n21) ∧ (0 ≤ n4 ∧ n4 < ((16 : Nat) : Int)) ∧ ∃ (n24 : Int), cellAt H4 (Addr.add ⟨g3, 0, none⟩ (Int.toNat n4 * 1)) = some (Value.int .u32 n24) ∧ (((decide (n21 > n24)) = true → ∃ ad30, (aarg0 =
    some ad30 ∧ 0 ≤ n5 ∧ n5 < ((lenarg0 : Nat) : Int)) ∧ (0 ≤ n4 ∧ n4 < ((16 : Nat) : Int)) ∧ ∃ (n32 : Int), cellAt H4 (Addr.add (Addr.add ad30 (Int.toNat n5 * 16)) (Int.toNat n4 * 1)) = some
    (Value.int .u32 n32) ∧ (0 ≤ n4 ∧ n4 < ((16 : Nat) : Int)) ∧ ∃ H5, wr1 H4 (Addr.add ⟨g3, 0, none⟩ (Int.toNat n4 * 1)) (Value.int .u32 n32) = some H5 ∧ (∃ n : Int, (Value.int .i64 (IntKind.wrap .i64
    (n5 + 1))) = Value.int .i64 n) ∧ I6 [(Value.int .i64 (IntKind.wrap .i64 (n5 + 1)))] H5 ∧ m6 [(Value.int .i64 (IntKind.wrap .i64 (n5 + 1)))] H5 < m6 [(Value.int .i64 n5)] H4) ∧ ((decide (n21 >
    n24)) = false → (∃ n : Int, (Value.int .i64 (IntKind.wrap .i64 (n5 + 1))) = Value.int .i64 n) ∧ I6 [(Value.int .i64 (IntKind.wrap .i64 (n5 + 1)))] H4 ∧ m6 [(Value.int .i64 (IntKind.wrap .i64 (n5 +
    1)))] H4 < m6 [(Value.int .i64 n5)] H4))) ∧ ((decide (n5 < ((lenarg0 : Nat) : Int))) = false → (∃ n : Int, (Value.int .i64 (IntKind.wrap .i64 (n4 + 1))) = Value.int .i64 n) ∧ I3 [(Value.int .i64
    (IntKind.wrap .i64 (n4 + 1)))] H4 ∧ m3 [(Value.int .i64 (IntKind.wrap .i64 (n4 + 1)))] H4 < m3 [(Value.int .i64 n4)] H3)))) ∧ ((decide (n4 < 16)) = false → ∃ cs34, RdN H3 ⟨g3, 0, none⟩ 16 cs34 ∧ ∃
    H6, cs34.size = 16 ∧ wrN H3 ⟨g2, 0, none⟩ cs34.toList 0 = some H6 ∧ ∃ csres, RdN H6 ⟨g2, 0, none⟩ 16 csres ∧ R (Value.agg csres) H6)))
theorem caravanref03_Merge.eq (aarg0 : Option Addr) (lenarg0 caparg0 : Nat) (R : Value → Heap → Prop) (H0 : Heap) : funcVC Try.prog tab fns [] [(3, [(4, 3)]), (6, [(5, 3)])] Try.f13 [(Value.slice aarg0 lenarg0 caparg0)] R H0 = caravanref03_Merge.vc aarg0 lenarg0 caparg0 R H0 := by kernel_rfl
theorem caravanref03_Merge.ok {aarg0 : Option Addr} {lenarg0 caparg0 : Nat} {R : Value → Heap → Prop} {H0 : Heap} (h : caravanref03_Merge.vc aarg0 lenarg0 caparg0 R H0) : CallsH Try.prog 13 ⟨[(Value.slice aarg0 lenarg0 caparg0)]⟩ H0 R :=
  funcVC_sound tab_ok fns_ok mixed_ok Try.func13 (cast (caravanref03_Merge.eq aarg0 lenarg0 caparg0 R H0).symm h)

/-- caravan/vector.Cmp -/
def vector_Cmp.vc (csarg0 : Array Value) (csarg1 : Array Value) (R : Value → Heap → Prop) (H0 : Heap) : Prop :=
  ∀ g2 H1, NewB H0 24 csarg0 g2 H1 → ∀ g3 H2, NewB H1 24 csarg1 g3 H2 → ∃ cs5, RdN H2 ⟨g2, 0, none⟩ 16 cs5 ∧ ∃ cs6, RdN H2 ⟨g3, 0, none⟩ 16 cs6 ∧ SemH Try.prog (Instr.buildSlice 32 2 ⟨[(0, (Value.agg
    cs5)), (1, (Value.agg cs6))]⟩) H2 (fun r7 H3 => ∃ (a7 : Option Addr) (len7 cap7 : Nat), r7 = (Value.slice a7 len7 cap7) ∧ CallsH Try.prog 12 ⟨[(Value.slice a7 len7 cap7)]⟩ H3 (fun r8 H4 => ∃ (cs8
    : Array Value), r8 = (Value.agg cs8) ∧ ∃ cs10, RdN H4 ⟨g2, 0, none⟩ 16 cs10 ∧ ∃ e11 : Bool, EqA Try.prog 24 cs8 cs10 e11 ∧ ((e11 = true → ∃ cs12, RdN H4 ⟨g2, 0, none⟩ 16 cs12 ∧ ∃ cs13, RdN H4 ⟨g3,
    0, none⟩ 16 cs13 ∧ ∃ e14 : Bool, EqA Try.prog 24 cs12 cs13 e14 ∧ ((e14 = true → R (Value.int .i64 0) H4) ∧ (e14 = false → R (Value.int .i64 1) H4))) ∧ (e11 = false → ∃ cs16, RdN H4 ⟨g3, 0, none⟩
    16 cs16 ∧ ∃ e17 : Bool, EqA Try.prog 24 cs8 cs16 e17 ∧ ((e17 = true → R (Value.int .i64 (-1)) H4) ∧ (e17 = false → R (Value.int .i64 2) H4))))))
theorem vector_Cmp.eq (csarg0 : Array Value) (csarg1 : Array Value) (R : Value → Heap → Prop) (H0 : Heap) : funcVC Try.prog tab fns [] [] Try.f14 [(Value.agg csarg0), (Value.agg csarg1)] R H0 = vector_Cmp.vc csarg0 csarg1 R H0 := by kernel_rfl
theorem vector_Cmp.ok {csarg0 : Array Value} {csarg1 : Array Value} {R : Value → Heap → Prop} {H0 : Heap} (h : vector_Cmp.vc csarg0 csarg1 R H0) : CallsH Try.prog 14 ⟨[(Value.agg csarg0), (Value.agg csarg1)]⟩ H0 R :=
  funcVC_sound tab_ok fns_ok mixed_ok Try.func14 (cast (vector_Cmp.eq csarg0 csarg1 R H0).symm h)

/-- caravan/vector.Sum -/
def vector_Sum.vc (csarg0 : Array Value) (R : Value → Heap → Prop) (H0 : Heap) : Prop :=
  ∀ g1 H1, NewB H0 24 csarg0 g1 H1 → ∃ cs5, RdN H1 ⟨g1, 0, none⟩ 16 cs5 ∧ ∃ (I2 : List Value → Heap → Prop) (m2 : List Value → Heap → Nat), ((∃ n : Int, (Value.int .u64 0) = Value.int .u64 n) ∧ (∃ n :
    Int, (Value.int .i64 0) = Value.int .i64 n) ∧ I2 [(Value.int .u64 0), (Value.int .i64 0)] H1) ∧ (∀ (n2 : Int) (n6 : Int), ∀ H2, I2 [(Value.int .u64 n2), (Value.int .i64 n6)] H2 → (((decide (n6 <
    16)) = true → ∃ (n8 : Int), (0 ≤ n6 ∧ n6 < ((16 : Nat) : Int) ∧ cs5[Int.toNat n6 * 1]? = some (Value.int .u32 n8)) ∧ (∃ n : Int, (Value.int .u64 (IntKind.wrap .u64 (n2 + (IntKind.wrap .u64 n8))))
    = Value.int .u64 n) ∧ (∃ n : Int, (Value.int .i64 (IntKind.wrap .i64 (n6 + 1))) = Value.int .i64 n) ∧ I2 [(Value.int .u64 (IntKind.wrap .u64 (n2 + (IntKind.wrap .u64 n8)))), (Value.int .i64
    (IntKind.wrap .i64 (n6 + 1)))] H2 ∧ m2 [(Value.int .u64 (IntKind.wrap .u64 (n2 + (IntKind.wrap .u64 n8)))), (Value.int .i64 (IntKind.wrap .i64 (n6 + 1)))] H2 < m2 [(Value.int .u64 n2), (Value.int
    .i64 n6)] H2) ∧ ((decide (n6 < 16)) = false → R (Value.int .u64 n2) H2)))
theorem vector_Sum.eq (csarg0 : Array Value) (R : Value → Heap → Prop) (H0 : Heap) : funcVC Try.prog tab fns [] [(2, [(2, 37), (6, 3)])] Try.f15 [(Value.agg csarg0)] R H0 = vector_Sum.vc csarg0 R H0 := by kernel_rfl
theorem vector_Sum.ok {csarg0 : Array Value} {R : Value → Heap → Prop} {H0 : Heap} (h : vector_Sum.vc csarg0 R H0) : CallsH Try.prog 15 ⟨[(Value.agg csarg0)]⟩ H0 R :=
  funcVC_sound tab_ok fns_ok mixed_ok Try.func15 (cast (vector_Sum.eq csarg0 R H0).symm h)

/-- caravan/vector.Least -/
def vector_Least.vc (csarg0 : Array Value) (R : Value → Heap → Prop) (H0 : Heap) : Prop :=
  ∀ g1 H1, NewB H0 24 csarg0 g1 H1 → ∃ cs6, RdN H1 ⟨g1, 0, none⟩ 16 cs6 ∧ ∃ (I2 : List Value → Heap → Prop) (m2 : List Value → Heap → Nat), ((∃ n : Int, (Value.int .i64 0) = Value.int .i64 n) ∧ I2
    [(Value.int .i64 0)] H1) ∧ (∀ (n7 : Int), ∀ H2, I2 [(Value.int .i64 n7)] H2 → (((decide (n7 < 16)) = true → ∃ (n10 : Int), (0 ≤ n7 ∧ n7 < ((16 : Nat) : Int) ∧ cs6[Int.toNat n7 * 1]? = some
    (Value.int .u32 n10)) ∧ (((decide (n10 > 0)) = true → R (Value.tuple ⟨[(Value.int .i64 (IntKind.wrap .i64 (n7 + 1))), (Value.bool true)]⟩) H2) ∧ ((decide (n10 > 0)) = false → (∃ n : Int,
    (Value.int .i64 (IntKind.wrap .i64 (n7 + 1))) = Value.int .i64 n) ∧ I2 [(Value.int .i64 (IntKind.wrap .i64 (n7 + 1)))] H2 ∧ m2 [(Value.int .i64 (IntKind.wrap .i64 (n7 + 1)))] H2 < m2 [(Value.int
    .i64 n7)] H2))) ∧ ((decide (n7 < 16)) = false → R (Value.tuple ⟨[(Value.int .i64 0), (Value.bool false)]⟩) H2)))
theorem vector_Least.eq (csarg0 : Array Value) (R : Value → Heap → Prop) (H0 : Heap) : funcVC Try.prog tab fns [] [(2, [(7, 3)])] Try.f16 [(Value.agg csarg0)] R H0 = vector_Least.vc csarg0 R H0 := by kernel_rfl
theorem vector_Least.ok {csarg0 : Array Value} {R : Value → Heap → Prop} {H0 : Heap} (h : vector_Least.vc csarg0 R H0) : CallsH Try.prog 16 ⟨[(Value.agg csarg0)]⟩ H0 R :=
  funcVC_sound tab_ok fns_ok mixed_ok Try.func16 (cast (vector_Least.eq csarg0 R H0).symm h)

/-- caravan/caravanref03.Least -/
def caravanref03_Least.vc (csarg0 : Array Value) (R : Value → Heap → Prop) (H0 : Heap) : Prop :=
  ∀ g1 H1, NewB H0 24 csarg0 g1 H1 → ∃ (I2 : List Value → Heap → Prop) (m2 : List Value → Heap → Nat), ((∃ n : Int, (Value.int .i64 0) = Value.int .i64 n) ∧ I2 [(Value.int .i64 0)] H1) ∧ (∀ (n4 : Int),
    ∀ H2, I2 [(Value.int .i64 n4)] H2 → (((decide (n4 < 16)) = true → (0 ≤ n4 ∧ n4 < ((16 : Nat) : Int)) ∧ ∃ (n11 : Int), cellAt H2 (Addr.add ⟨g1, 0, none⟩ (Int.toNat n4 * 1)) = some (Value.int .u32
    n11) ∧ (((n11 != 0) = true → R (Value.tuple ⟨[(Value.int .i64 (IntKind.wrap .i64 (n4 + 1))), (Value.bool true)]⟩) H2) ∧ ((n11 != 0) = false → (∃ n : Int, (Value.int .i64 (IntKind.wrap .i64 (n4 +
    1))) = Value.int .i64 n) ∧ I2 [(Value.int .i64 (IntKind.wrap .i64 (n4 + 1)))] H2 ∧ m2 [(Value.int .i64 (IntKind.wrap .i64 (n4 + 1)))] H2 < m2 [(Value.int .i64 n4)] H2))) ∧ ((decide (n4 < 16)) =
    false → R (Value.tuple ⟨[(Value.int .i64 0), (Value.bool false)]⟩) H2)))
theorem caravanref03_Least.eq (csarg0 : Array Value) (R : Value → Heap → Prop) (H0 : Heap) : funcVC Try.prog tab fns [] [(2, [(4, 3)])] Try.f17 [(Value.agg csarg0)] R H0 = caravanref03_Least.vc csarg0 R H0 := by kernel_rfl
theorem caravanref03_Least.ok {csarg0 : Array Value} {R : Value → Heap → Prop} {H0 : Heap} (h : caravanref03_Least.vc csarg0 R H0) : CallsH Try.prog 17 ⟨[(Value.agg csarg0)]⟩ H0 R :=
  funcVC_sound tab_ok fns_ok mixed_ok Try.func17 (cast (caravanref03_Least.eq csarg0 R H0).symm h)

/-- caravan/caravanref03.Cmp -/
def caravanref03_Cmp.vc (csarg0 : Array Value) (csarg1 : Array Value) (R : Value → Heap → Prop) (H0 : Heap) : Prop :=
  ∀ g2 H1, NewB H0 24 csarg0 g2 H1 → ∀ g3 H2, NewB H1 24 csarg1 g3 H2 → ∃ (I3 : List Value → Heap → Prop) (m3 : List Value → Heap → Nat), ((∃ n : Int, (Value.int .i64 0) = Value.int .i64 n) ∧ (∃ n :
    Int, (Value.int .i64 0) = Value.int .i64 n) ∧ (∃ n : Int, (Value.int .i64 0) = Value.int .i64 n) ∧ I3 [(Value.int .i64 0), (Value.int .i64 0), (Value.int .i64 0)] H2) ∧ (∀ (n5 : Int) (n6 : Int)
    (n7 : Int), ∀ H3, I3 [(Value.int .i64 n5), (Value.int .i64 n6), (Value.int .i64 n7)] H3 → (((decide (n7 < 16)) = true → ∃ M4 : List Value → Heap → Prop, (∃ M7 : List Value → Heap → Prop, ((0 ≤ n7
    ∧ n7 < ((16 : Nat) : Int)) ∧ ∃ (n14 : Int), cellAt H3 (Addr.add ⟨g2, 0, none⟩ (Int.toNat n7 * 1)) = some (Value.int .u32 n14) ∧ (0 ≤ n7 ∧ n7 < ((16 : Nat) : Int)) ∧ ∃ (n17 : Int), cellAt H3
    (Addr.add ⟨g3, 0, none⟩ (Int.toNat n7 * 1)) = some (Value.int .u32 n17) ∧ (((decide (n14 > n17)) = true → (∃ n : Int, (Value.int .i64 (IntKind.wrap .i64 (n5 + 1))) = Value.int .i64 n) ∧ M7
    [(Value.int .i64 (IntKind.wrap .i64 (n5 + 1)))] H3) ∧ ((decide (n14 > n17)) = false → (∃ n : Int, (Value.int .i64 n5) = Value.int .i64 n) ∧ M7 [(Value.int .i64 n5)] H3))) ∧ (∀ (n5_1 : Int), ∀ H4,
    M7 [(Value.int .i64 n5_1)] H4 → (0 ≤ n7 ∧ n7 < ((16 : Nat) : Int)) ∧ ∃ (n23 : Int), cellAt H4 (Addr.add ⟨g2, 0, none⟩ (Int.toNat n7 * 1)) = some (Value.int .u32 n23) ∧ (0 ≤ n7 ∧ n7 < ((16 : Nat) :
    Int)) ∧ ∃ (n26 : Int), cellAt H4 (Addr.add ⟨g3, 0, none⟩ (Int.toNat n7 * 1)) = some (Value.int .u32 n26) ∧ (((decide (n23 < n26)) = true → (∃ n : Int, (Value.int .i64 n5_1) = Value.int .i64 n) ∧
    (∃ n : Int, (Value.int .i64 (IntKind.wrap .i64 (n6 + 1))) = Value.int .i64 n) ∧ M4 [(Value.int .i64 n5_1), (Value.int .i64 (IntKind.wrap .i64 (n6 + 1)))] H4) ∧ ((decide (n23 < n26)) = false → (∃ n
    : Int, (Value.int .i64 n5_1) = Value.int .i64 n) ∧ (∃ n : Int, (Value.int .i64 n6) = Value.int .i64 n) ∧ M4 [(Value.int .i64 n5_1), (Value.int .i64 n6)] H4)))) ∧ (∀ (n5_2 : Int) (n6_1 : Int), ∀
    H5, M4 [(Value.int .i64 n5_2), (Value.int .i64 n6_1)] H5 → (∃ n : Int, (Value.int .i64 n5_2) = Value.int .i64 n) ∧ (∃ n : Int, (Value.int .i64 n6_1) = Value.int .i64 n) ∧ (∃ n : Int, (Value.int
    .i64 (IntKind.wrap .i64 (n7 + 1))) = Value.int .i64 n) ∧ I3 [(Value.int .i64 n5_2), (Value.int .i64 n6_1), (Value.int .i64 (IntKind.wrap .i64 (n7 + 1)))] H5 ∧ m3 [(Value.int .i64 n5_2), (Value.int
    .i64 n6_1), (Value.int .i64 (IntKind.wrap .i64 (n7 + 1)))] H5 < m3 [(Value.int .i64 n5), (Value.int .i64 n6), (Value.int .i64 n7)] H3)) ∧ ((decide (n7 < 16)) = false → (((cond (decide (n5 > 0))
    (decide (n6 > 0)) false) = true → R (Value.int .i64 2) H3) ∧ ((cond (decide (n5 > 0)) (decide (n6 > 0)) false) = false → (((decide (n5 > 0)) = true → R (Value.int .i64 1) H3) ∧ ((decide (n5 > 0))
    = false → (((decide (n6 > 0)) = true → R (Value.int .i64 (-1)) H3) ∧ ((decide (n6 > 0)) = false → R (Value.int .i64 0) H3)))))))))
theorem caravanref03_Cmp.eq (csarg0 : Array Value) (csarg1 : Array Value) (R : Value → Heap → Prop) (H0 : Heap) : funcVC Try.prog tab fns [(7, [(5, 3)]), (4, [(5, 3), (6, 3)])] [(3, [(5, 3), (6, 3), (7, 3)])] Try.f18 [(Value.agg csarg0), (Value.agg csarg1)] R H0 = caravanref03_Cmp.vc csarg0 csarg1 R H0 := by kernel_rfl
theorem caravanref03_Cmp.ok {csarg0 : Array Value} {csarg1 : Array Value} {R : Value → Heap → Prop} {H0 : Heap} (h : caravanref03_Cmp.vc csarg0 csarg1 R H0) : CallsH Try.prog 18 ⟨[(Value.agg csarg0), (Value.agg csarg1)]⟩ H0 R :=
  funcVC_sound tab_ok fns_ok mixed_ok Try.func18 (cast (caravanref03_Cmp.eq csarg0 csarg1 R H0).symm h)

/-- caravan/caravanref03.Sum -/
def caravanref03_Sum.vc (csarg0 : Array Value) (R : Value → Heap → Prop) (H0 : Heap) : Prop :=
  ∀ g1 H1, NewB H0 24 csarg0 g1 H1 → ∃ (I3 : List Value → Heap → Prop) (m3 : List Value → Heap → Nat), ((∃ n : Int, (Value.int .u64 0) = Value.int .u64 n) ∧ (∃ n : Int, (Value.int .i64 0) = Value.int
    .i64 n) ∧ I3 [(Value.int .u64 0), (Value.int .i64 0)] H1) ∧ (∀ (n3 : Int) (n4 : Int), ∀ H2, I3 [(Value.int .u64 n3), (Value.int .i64 n4)] H2 → (((decide (n4 < 16)) = true → (0 ≤ n4 ∧ n4 < ((16 :
    Nat) : Int)) ∧ ∃ (n12 : Int), cellAt H2 (Addr.add ⟨g1, 0, none⟩ (Int.toNat n4 * 1)) = some (Value.int .u32 n12) ∧ (∃ n : Int, (Value.int .u64 (IntKind.wrap .u64 (n3 + (IntKind.wrap .u64 n12)))) =
    Value.int .u64 n) ∧ (∃ n : Int, (Value.int .i64 (IntKind.wrap .i64 (n4 + 1))) = Value.int .i64 n) ∧ I3 [(Value.int .u64 (IntKind.wrap .u64 (n3 + (IntKind.wrap .u64 n12)))), (Value.int .i64
    (IntKind.wrap .i64 (n4 + 1)))] H2 ∧ m3 [(Value.int .u64 (IntKind.wrap .u64 (n3 + (IntKind.wrap .u64 n12)))), (Value.int .i64 (IntKind.wrap .i64 (n4 + 1)))] H2 < m3 [(Value.int .u64 n3), (Value.int
    .i64 n4)] H2) ∧ ((decide (n4 < 16)) = false → R (Value.int .u64 n3) H2)))
theorem caravanref03_Sum.eq (csarg0 : Array Value) (R : Value → Heap → Prop) (H0 : Heap) : funcVC Try.prog tab fns [] [(3, [(3, 37), (4, 3)])] Try.f19 [(Value.agg csarg0)] R H0 = caravanref03_Sum.vc csarg0 R H0 := by kernel_rfl
theorem caravanref03_Sum.ok {csarg0 : Array Value} {R : Value → Heap → Prop} {H0 : Heap} (h : caravanref03_Sum.vc csarg0 R H0) : CallsH Try.prog 19 ⟨[(Value.agg csarg0)]⟩ H0 R :=
  funcVC_sound tab_ok fns_ok mixed_ok Try.func19 (cast (caravanref03_Sum.eq csarg0 R H0).symm h)

/-- caravan/caravanlaw03.bumps -/
def caravanlaw03_bumps.vc (csarg0 : Array Value) (narg1 : Int) (narg2 : Int) (csarg3 : Array Value) (R : Value → Heap → Prop) (H0 : Heap) : Prop :=
  ∀ g4 H1, NewB H0 24 csarg0 g4 H1 → ∀ g7 H2, NewB H1 24 csarg3 g7 H2 → ∃ cs12, RdN H2 ⟨g4, 0, none⟩ 16 cs12 ∧ CallsH Try.prog 9 ⟨[(Value.agg cs12), (Value.int .i64 narg1), (Value.int .i64 narg2)]⟩ H2
    (fun r15 H3 => ∃ (cs15_0 : Array Value), ∃ (n15_1 : Int), r15 = (Value.tuple ⟨[(Value.agg cs15_0), (Value.int .i64 n15_1)]⟩) ∧ ∀ g9 H4, NewB H3 24 (zc 24) g9 H4 → ∃ H5, cs15_0.size = 16 ∧ wrN H4
    ⟨g9, 0, none⟩ cs15_0.toList 0 = some H5 ∧ ∃ cs21, ((n15_1 == 0) = true → RdN H5 ⟨g9, 0, none⟩ 16 cs21) ∧ ∃ cs22, ((n15_1 == 0) = true → RdN H5 ⟨g7, 0, none⟩ 16 cs22) ∧ ∃ e23 : Bool, ((n15_1 == 0)
    = true → EqA Try.prog 24 cs21 cs22 e23) ∧ R (Value.bool (cond (n15_1 == 0) e23 false)) H5)
theorem caravanlaw03_bumps.eq (csarg0 : Array Value) (narg1 : Int) (narg2 : Int) (csarg3 : Array Value) (R : Value → Heap → Prop) (H0 : Heap) : funcVC Try.prog tab fns [] [] Try.f20 [(Value.agg csarg0), (Value.int .i64 narg1), (Value.int .i64 narg2), (Value.agg csarg3)] R H0 = caravanlaw03_bumps.vc csarg0 narg1 narg2 csarg3 R H0 := by kernel_rfl
theorem caravanlaw03_bumps.ok {csarg0 : Array Value} {narg1 : Int} {narg2 : Int} {csarg3 : Array Value} {R : Value → Heap → Prop} {H0 : Heap} (h : caravanlaw03_bumps.vc csarg0 narg1 narg2 csarg3 R H0) : CallsH Try.prog 20 ⟨[(Value.agg csarg0), (Value.int .i64 narg1), (Value.int .i64 narg2), (Value.agg csarg3)]⟩ H0 R :=
  funcVC_sound tab_ok fns_ok mixed_ok Try.func20 (cast (caravanlaw03_bumps.eq csarg0 narg1 narg2 csarg3 R H0).symm h)

/-- caravan/caravanlaw03.of -/
def caravanlaw03_of.vc (aarg0 : Option Addr) (lenarg0 caparg0 : Nat) (R : Value → Heap → Prop) (H0 : Heap) : Prop :=
  ∀ g2 H1, NewB H0 24 (zc 24) g2 H1 → ∀ g3 H2, NewB H1 24 (zc 24) g3 H2 → ∃ (I3 : List Value → Heap → Prop) (m3 : List Value → Heap → Nat), ((∃ n : Int, (Value.int .i64 0) = Value.int .i64 n) ∧ I3
    [(Value.int .i64 0)] H2) ∧ (∀ (n4 : Int), ∀ H3, I3 [(Value.int .i64 n4)] H3 → (((cond (decide (n4 < ((lenarg0 : Nat) : Int))) (decide (n4 < 16)) false) = true → ∃ ad18, (aarg0 = some ad18 ∧ 0 ≤ n4
    ∧ n4 < ((lenarg0 : Nat) : Int)) ∧ ∃ (n19 : Int), cellAt H3 (Addr.add ad18 (Int.toNat n4 * 1)) = some (Value.int .u32 n19) ∧ (0 ≤ n4 ∧ n4 < ((16 : Nat) : Int)) ∧ ∃ H4, wr1 H3 (Addr.add ⟨g3, 0,
    none⟩ (Int.toNat n4 * 1)) (Value.int .u32 n19) = some H4 ∧ (∃ n : Int, (Value.int .i64 (IntKind.wrap .i64 (n4 + 1))) = Value.int .i64 n) ∧ I3 [(Value.int .i64 (IntKind.wrap .i64 (n4 + 1)))] H4 ∧
    m3 [(Value.int .i64 (IntKind.wrap .i64 (n4 + 1)))] H4 < m3 [(Value.int .i64 n4)] H3) ∧ ((cond (decide (n4 < ((lenarg0 : Nat) : Int))) (decide (n4 < 16)) false) = false → ∃ cs21, RdN H3 ⟨g3, 0,
    none⟩ 16 cs21 ∧ ∃ H5, cs21.size = 16 ∧ wrN H3 ⟨g2, 0, none⟩ cs21.toList 0 = some H5 ∧ ∃ csres, RdN H5 ⟨g2, 0, none⟩ 16 csres ∧ R (Value.agg csres) H5)))
theorem caravanlaw03_of.eq (aarg0 : Option Addr) (lenarg0 caparg0 : Nat) (R : Value → Heap → Prop) (H0 : Heap) : funcVC Try.prog tab fns [] [(3, [(4, 3)])] Try.f21 [(Value.slice aarg0 lenarg0 caparg0)] R H0 = caravanlaw03_of.vc aarg0 lenarg0 caparg0 R H0 := by kernel_rfl
theorem caravanlaw03_of.ok {aarg0 : Option Addr} {lenarg0 caparg0 : Nat} {R : Value → Heap → Prop} {H0 : Heap} (h : caravanlaw03_of.vc aarg0 lenarg0 caparg0 R H0) : CallsH Try.prog 21 ⟨[(Value.slice aarg0 lenarg0 caparg0)]⟩ H0 R :=
  funcVC_sound tab_ok fns_ok mixed_ok Try.func21 (cast (caravanlaw03_of.eq aarg0 lenarg0 caparg0 R H0).symm h)

/-- caravan/caravanlaw03.no -/
def caravanlaw03_no.vc (csarg0 : Array Value) (narg1 : Int) (narg2 : Int) (narg3 : Int) (R : Value → Heap → Prop) (H0 : Heap) : Prop :=
  ∀ g4 H1, NewB H0 24 csarg0 g4 H1 → ∃ cs12, RdN H1 ⟨g4, 0, none⟩ 16 cs12 ∧ CallsH Try.prog 9 ⟨[(Value.agg cs12), (Value.int .i64 narg1), (Value.int .i64 narg2)]⟩ H1 (fun r15 H2 => ∃ (cs15_0 : Array
    Value), ∃ (n15_1 : Int), r15 = (Value.tuple ⟨[(Value.agg cs15_0), (Value.int .i64 n15_1)]⟩) ∧ ∀ g9 H3, NewB H2 24 (zc 24) g9 H3 → ∃ H4, cs15_0.size = 16 ∧ wrN H3 ⟨g9, 0, none⟩ cs15_0.toList 0 =
    some H4 ∧ ∃ cs22, ((n15_1 == narg3) = true → RdN H4 ⟨g9, 0, none⟩ 16 cs22) ∧ ∃ (cs23 : Array Value), ((n15_1 == narg3) = true → PureV Try.prog (Instr.build 24 ⟨[]⟩) (Value.agg cs23)) ∧ ∃ e24 :
    Bool, ((n15_1 == narg3) = true → EqA Try.prog 24 cs22 cs23 e24) ∧ R (Value.bool (cond (n15_1 == narg3) e24 false)) H4)
theorem caravanlaw03_no.eq (csarg0 : Array Value) (narg1 : Int) (narg2 : Int) (narg3 : Int) (R : Value → Heap → Prop) (H0 : Heap) : funcVC Try.prog tab fns [] [] Try.f22 [(Value.agg csarg0), (Value.int .i64 narg1), (Value.int .i64 narg2), (Value.int .i64 narg3)] R H0 = caravanlaw03_no.vc csarg0 narg1 narg2 narg3 R H0 := by kernel_rfl
theorem caravanlaw03_no.ok {csarg0 : Array Value} {narg1 : Int} {narg2 : Int} {narg3 : Int} {R : Value → Heap → Prop} {H0 : Heap} (h : caravanlaw03_no.vc csarg0 narg1 narg2 narg3 R H0) : CallsH Try.prog 22 ⟨[(Value.agg csarg0), (Value.int .i64 narg1), (Value.int .i64 narg2), (Value.int .i64 narg3)]⟩ H0 R :=
  funcVC_sound tab_ok fns_ok mixed_ok Try.func22 (cast (caravanlaw03_no.eq csarg0 narg1 narg2 narg3 R H0).symm h)

end Go.Proofs.Ytkidefjiaknefaa
