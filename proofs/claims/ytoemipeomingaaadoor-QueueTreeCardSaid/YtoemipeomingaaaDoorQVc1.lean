/- The forms of the program's functions over the heap alone, each tied to its code by the kernel: part 2. -/
import Derived.Test.YtoemipeomingaaaDoorQVt
namespace Go.Proofs.YtoemipeomingaaaDoor
open Go Go.V
set_option maxRecDepth 100000

/-- caravan/record.Version -/
def record_Version.vc (csarg0 : Array Value) (csarg1 : Array Value) (R : Value → Heap → Prop) (H0 : Heap) : Prop :=
  ∀ g2 H1, NewB H0 35 csarg0 g2 H1 → ∀ g3 H2, NewB H1 35 csarg1 g3 H2 → ∃ cs6, RdN H2 (Addr.add ⟨g2, 0, none⟩ 6) 16 cs6 ∧ ∃ cs8, RdN H2 (Addr.add ⟨g3, 0, none⟩ 6) 16 cs8 ∧ ∃ e9 : Bool, EqA Tryd.prog 32
    cs6 cs8 e9 ∧ ∃ (b12 : Bool), (e9 = true → cellAt H2 (Addr.add ⟨g2, 0, none⟩ 2) = some (Value.bool b12)) ∧ ∃ (b14 : Bool), (e9 = true → cellAt H2 (Addr.add ⟨g3, 0, none⟩ 2) = some (Value.bool b14))
    ∧ R (Value.bool (cond e9 (b12 == b14) false)) H2
theorem record_Version.eq (csarg0 : Array Value) (csarg1 : Array Value) (R : Value → Heap → Prop) (H0 : Heap) : funcVC Tryd.prog tab fns [] [] Tryd.f39 [(Value.agg csarg0), (Value.agg csarg1)] R H0 = record_Version.vc csarg0 csarg1 R H0 := by kernel_rfl
theorem record_Version.ok {csarg0 : Array Value} {csarg1 : Array Value} {R : Value → Heap → Prop} {H0 : Heap} (h : record_Version.vc csarg0 csarg1 R H0) : CallsH Tryd.prog 39 ⟨[(Value.agg csarg0), (Value.agg csarg1)]⟩ H0 R :=
  funcVC_sound tab_ok fns_ok mixed_ok Tryd.func39 (cast (record_Version.eq csarg0 csarg1 R H0).symm h)

/-- caravan/record.Content -/
def record_Content.vc (csarg0 : Array Value) (csarg1 : Array Value) (R : Value → Heap → Prop) (H0 : Heap) : Prop :=
  ∀ g2 H1, NewB H0 35 csarg0 g2 H1 → ∀ g3 H2, NewB H1 35 csarg1 g3 H2 → ∃ (b6 : Bool), cellAt H2 (Addr.add ⟨g2, 0, none⟩ 2) = some (Value.bool b6) ∧ ∃ (b8 : Bool), cellAt H2 (Addr.add ⟨g3, 0, none⟩ 2) =
    some (Value.bool b8) ∧ ∃ (n12 : Int), ((b6 == b8) = true → cellAt H2 (Addr.add ⟨g2, 0, none⟩ 1) = some (Value.int .i64 n12)) ∧ ∃ (n14 : Int), ((b6 == b8) = true → cellAt H2 (Addr.add ⟨g3, 0, none⟩
    1) = some (Value.int .i64 n14)) ∧ ∃ (n19 : Int), ((cond (b6 == b8) (n12 == n14) false) = true → cellAt H2 (Addr.add ⟨g2, 0, none⟩ 3) = some (Value.int .i64 n19)) ∧ ∃ (n21 : Int), ((cond (b6 == b8)
    (n12 == n14) false) = true → cellAt H2 (Addr.add ⟨g3, 0, none⟩ 3) = some (Value.int .i64 n21)) ∧ ∃ (a26 : Option Addr) (len26 cap26 : Nat), ((cond (cond (b6 == b8) (n12 == n14) false) (n19 == n21)
    false) = true → cellAt H2 (Addr.add ⟨g2, 0, none⟩ 23) = some (Value.slice a26 len26 cap26)) ∧ ∃ (a28 : Option Addr) (len28 cap28 : Nat), ((cond (cond (b6 == b8) (n12 == n14) false) (n19 == n21)
    false) = true → cellAt H2 (Addr.add ⟨g3, 0, none⟩ 23) = some (Value.slice a28 len28 cap28)) ∧ (((cond (cond (b6 == b8) (n12 == n14) false) (n19 == n21) false) = true → CallsH Tryd.prog 53
    ⟨[(Value.slice a26 len26 cap26), (Value.slice a28 len28 cap28)]⟩ H2 (fun r29 H3 => ∃ (b29 : Bool), r29 = (Value.bool b29) ∧ ∃ (l33 : List UInt8), (b29 = true → cellAt H3 (Addr.add ⟨g2, 0, none⟩
    24) = some (Value.string ⟨⟨l33⟩⟩)) ∧ ∃ (l35 : List UInt8), (b29 = true → cellAt H3 (Addr.add ⟨g3, 0, none⟩ 24) = some (Value.string ⟨⟨l35⟩⟩)) ∧ R (Value.bool (cond b29 (l33 == l35) false)) H3)) ∧
    ((cond (cond (b6 == b8) (n12 == n14) false) (n19 == n21) false) = false → R (Value.bool false) H2))
theorem record_Content.eq (csarg0 : Array Value) (csarg1 : Array Value) (R : Value → Heap → Prop) (H0 : Heap) : funcVC Tryd.prog tab fns [] [] Tryd.f40 [(Value.agg csarg0), (Value.agg csarg1)] R H0 = record_Content.vc csarg0 csarg1 R H0 := by kernel_rfl
theorem record_Content.ok {csarg0 : Array Value} {csarg1 : Array Value} {R : Value → Heap → Prop} {H0 : Heap} (h : record_Content.vc csarg0 csarg1 R H0) : CallsH Tryd.prog 40 ⟨[(Value.agg csarg0), (Value.agg csarg1)]⟩ H0 R :=
  funcVC_sound tab_ok fns_ok mixed_ok Tryd.func40 (cast (record_Content.eq csarg0 csarg1 R H0).symm h)

/-- caravan/path.May -/
def path_May.vc (larg0 : List UInt8) (R : Value → Heap → Prop) (H0 : Heap) : Prop :=
  CallsH Tryd.prog 54 ⟨[(Value.string ⟨⟨larg0⟩⟩)]⟩ H0 (fun r12 H1 => ∃ (l12_0 : List UInt8), ∃ (l12_1 : List UInt8), r12 = (Value.tuple ⟨[(Value.string ⟨⟨l12_0⟩⟩), (Value.string ⟨⟨l12_1⟩⟩)]⟩) ∧ (((cond
    (decide (((List.length larg0 : Nat) : Int) > (160 : Int))) true (decide (((List.length l12_0 : Nat) : Int) > (111 : Int)))) = true → R (Value.bool false) H1) ∧ ((cond (decide (((List.length larg0
    : Nat) : Int) > (160 : Int))) true (decide (((List.length l12_0 : Nat) : Int) > (111 : Int)))) = false → CallsH Tryd.prog 55 ⟨[(Value.string ⟨⟨larg0⟩⟩), (Value.string ⟨⟨[47]⟩⟩)]⟩ H1 (fun r24 H2 =>
    ∃ (a24 : Option Addr) (len24 cap24 : Nat), r24 = (Value.slice a24 len24 cap24) ∧ ∀ g6 H3, NewB H2 4 (zc 4) g6 H3 → ∃ H4, wr1 H3 ⟨g6, 0, none⟩ (Value.bool (decide (((len24 : Nat) : Int) ≤ (6 :
    Int)))) = some H4 ∧ ∃ (I8 : List Value → Heap → Prop) (m8 : List Value → Heap → Nat), ((∃ n : Int, (Value.int .i64 (0 : Int)) = Value.int .i64 n) ∧ I8 [(Value.int .i64 (0 : Int))] H4) ∧ (∀ (n31 :
    Int), ∀ H5, I8 [(Value.int .i64 n31)] H5 → (((decide (n31 < ((len24 : Nat) : Int))) = true → ∃ ad33, (a24 = some ad33 ∧ 0 ≤ n31 ∧ n31 < ((len24 : Nat) : Int)) ∧ ∃ (l34 : List UInt8), cellAt H5
    (Addr.add ad33 (Int.toNat n31 * 1)) = some (Value.string ⟨⟨l34⟩⟩) ∧ CallsH Tryd.prog 56 ⟨[(Value.string ⟨⟨l34⟩⟩), (Value.pointer (some ⟨g6, 0, none⟩))]⟩ H5 (fun r37 H6 => r37 = (Value.tuple ⟨[]⟩)
    ∧ (∃ n : Int, (Value.int .i64 (IntKind.wrap .i64 (n31 + (1 : Int)))) = Value.int .i64 n) ∧ I8 [(Value.int .i64 (IntKind.wrap .i64 (n31 + (1 : Int))))] H6 ∧ m8 [(Value.int .i64 (IntKind.wrap .i64
    (n31 + (1 : Int))))] H6 < m8 [(Value.int .i64 n31)] H5)) ∧ ((decide (n31 < ((len24 : Nat) : Int))) = false → ∃ (b39 : Bool), cellAt H5 ⟨g6, 0, none⟩ = some (Value.bool b39) ∧ R (Value.bool b39)
    H5)))))))
theorem path_May.eq (larg0 : List UInt8) (R : Value → Heap → Prop) (H0 : Heap) : funcVC Tryd.prog tab fns [] [(8, [(31, 3)])] Tryd.f41 [(Value.string ⟨⟨larg0⟩⟩)] R H0 = path_May.vc larg0 R H0 := by kernel_rfl
theorem path_May.ok {larg0 : List UInt8} {R : Value → Heap → Prop} {H0 : Heap} (h : path_May.vc larg0 R H0) : CallsH Tryd.prog 41 ⟨[(Value.string ⟨⟨larg0⟩⟩)]⟩ H0 R :=
  funcVC_sound tab_ok fns_ok mixed_ok Tryd.func41 (cast (path_May.eq larg0 R H0).symm h)

/-- caravan/queue.inside$1 -/
def queue_inside_1.vc (larg0 : List UInt8) (gfree0 : Addr) (R : Value → Heap → Prop) (H0 : Heap) : Prop :=
  CallsH Tryd.prog 43 ⟨[(Value.string ⟨⟨larg0⟩⟩)]⟩ H0 (fun r6 H1 => ∃ (a6 : Option Addr) (len6 cap6 : Nat), r6 = (Value.slice a6 len6 cap6) ∧ ∃ (I1 : List Value → Heap → Prop) (m1 : List Value → Heap →
    Nat), ((∃ n : Int, (Value.int .i64 (0 : Int)) = Value.int .i64 n) ∧ I1 [(Value.int .i64 (0 : Int))] H1) ∧ (∀ (n8 : Int), ∀ H2, I1 [(Value.int .i64 n8)] H2 → (((decide (n8 < ((len6 : Nat) : Int)))
    = true → ∃ ad10, (a6 = some ad10 ∧ 0 ≤ n8 ∧ n8 < ((len6 : Nat) : Int)) ∧ ∃ (l11 : List UInt8), cellAt H2 (Addr.add ad10 (Int.toNat n8 * 1)) = some (Value.string ⟨⟨l11⟩⟩) ∧ ∃ (m12 : Option Nat),
    cellAt H2 gfree0 = some (Value.map m12) ∧ ∃ (n14 : Int), HeapV Tryd.prog (Instr.lookup 49 (Value.map m12) (Value.string ⟨⟨l11⟩⟩) false) H2 (Value.int .i64 n14) ∧ SemH Tryd.prog (Instr.mapUpdate 49
    (Value.map m12) (Value.string ⟨⟨l11⟩⟩) (Value.int .i64 (IntKind.wrap .i64 (n14 + (1 : Int))))) H2 (fun _ H3 => (∃ n : Int, (Value.int .i64 (IntKind.wrap .i64 (n8 + (1 : Int)))) = Value.int .i64 n)
    ∧ I1 [(Value.int .i64 (IntKind.wrap .i64 (n8 + (1 : Int))))] H3 ∧ m1 [(Value.int .i64 (IntKind.wrap .i64 (n8 + (1 : Int))))] H3 < m1 [(Value.int .i64 n8)] H2)) ∧ ((decide (n8 < ((len6 : Nat) :
    Int))) = false → R (Value.tuple ⟨[]⟩) H2))))
theorem queue_inside_1.eq (larg0 : List UInt8) (gfree0 : Addr) (R : Value → Heap → Prop) (H0 : Heap) : funcVC Tryd.prog tab fns [] [(1, [(8, 3)])] Tryd.f42 [(Value.string ⟨⟨larg0⟩⟩), (Value.pointer (some gfree0))] R H0 = queue_inside_1.vc larg0 gfree0 R H0 := by kernel_rfl
theorem queue_inside_1.ok {larg0 : List UInt8} {gfree0 : Addr} {R : Value → Heap → Prop} {H0 : Heap} (h : queue_inside_1.vc larg0 gfree0 R H0) : CallsH Tryd.prog 42 ⟨[(Value.string ⟨⟨larg0⟩⟩), (Value.pointer (some gfree0))]⟩ H0 R :=
  funcVC_sound tab_ok fns_ok mixed_ok Tryd.func42 (cast (queue_inside_1.eq larg0 gfree0 R H0).symm h)

/-- caravan/queue.above -/
def queue_above.vc (larg0 : List UInt8) (R : Value → Heap → Prop) (H0 : Heap) : Prop :=
  CallsH Tryd.prog 58 ⟨[(Value.string ⟨⟨larg0⟩⟩)]⟩ H0 (fun r8 H1 => ∃ (l8_0 : List UInt8), ∃ (b8_1 : Bool), r8 = (Value.tuple ⟨[(Value.string ⟨⟨l8_0⟩⟩), (Value.bool b8_1)]⟩) ∧ ∃ (I3 : List Value → Heap
    → Prop) (m3 : List Value → Heap → Nat), ((∃ (a : Option Addr) (l c : Nat), (Value.slice none 0 0) = Value.slice a l c) ∧ (∃ l : List UInt8, (Value.string ⟨⟨l8_0⟩⟩) = Value.string ⟨⟨l⟩⟩) ∧ I3
    [(Value.slice none 0 0), (Value.string ⟨⟨l8_0⟩⟩)] H1) ∧ (∀ (a3 : Option Addr) (len3 cap3 : Nat) (l4 : List UInt8), ∀ H2, I3 [(Value.slice a3 len3 cap3), (Value.string ⟨⟨l4⟩⟩)] H2 → (((!(l4 == []))
    = true → SemH Tryd.prog (Instr.buildSlice 27 1 ⟨[(0, (Value.string ⟨⟨l4⟩⟩))]⟩) H2 (fun r20 H3 => ∃ (a20 : Option Addr) (len20 cap20 : Nat), r20 = (Value.slice a20 len20 cap20) ∧ SemH Tryd.prog
    (Builtin.append_ #[27, 27] 27 ⟨[(Value.slice a3 len3 cap3), (Value.slice a20 len20 cap20)]⟩) H3 (fun r21 H4 => ∃ (a21 : Option Addr) (len21 cap21 : Nat), r21 = (Value.slice a21 len21 cap21) ∧
    CallsH Tryd.prog 58 ⟨[(Value.string ⟨⟨l4⟩⟩)]⟩ H4 (fun r15 H5 => ∃ (l15_0 : List UInt8), ∃ (b15_1 : Bool), r15 = (Value.tuple ⟨[(Value.string ⟨⟨l15_0⟩⟩), (Value.bool b15_1)]⟩) ∧ (∃ (a : Option
    Addr) (l c : Nat), (Value.slice a21 len21 cap21) = Value.slice a l c) ∧ (∃ l : List UInt8, (Value.string ⟨⟨l15_0⟩⟩) = Value.string ⟨⟨l⟩⟩) ∧ I3 [(Value.slice a21 len21 cap21), (Value.string
    ⟨⟨l15_0⟩⟩)] H5 ∧ m3 [(Value.slice a21 len21 cap21), (Value.string ⟨⟨l15_0⟩⟩)] H5 < m3 [(Value.slice a3 len3 cap3), (Value.string ⟨⟨l4⟩⟩)] H2)))) ∧ ((!(l4 == [])) = false → R (Value.slice a3 len3
    cap3) H2))))
theorem queue_above.eq (larg0 : List UInt8) (R : Value → Heap → Prop) (H0 : Heap) : funcVC Tryd.prog tab fns [] [(3, [(3, 27), (4, 9)])] Tryd.f43 [(Value.string ⟨⟨larg0⟩⟩)] R H0 = queue_above.vc larg0 R H0 := by kernel_rfl
theorem queue_above.ok {larg0 : List UInt8} {R : Value → Heap → Prop} {H0 : Heap} (h : queue_above.vc larg0 R H0) : CallsH Tryd.prog 43 ⟨[(Value.string ⟨⟨larg0⟩⟩)]⟩ H0 R :=
  funcVC_sound tab_ok fns_ok mixed_ok Tryd.func43 (cast (queue_above.eq larg0 R H0).symm h)

/-- caravan/queue.sorted$1 -/
def queue_sorted_1.vc (csarg0 : Array Value) (csarg1 : Array Value) (R : Value → Heap → Prop) (H0 : Heap) : Prop :=
  ∀ g2 H1, NewB H0 35 csarg0 g2 H1 → ∀ g3 H2, NewB H1 35 csarg1 g3 H2 → ∃ (l6 : List UInt8), cellAt H2 (Addr.add ⟨g2, 0, none⟩ 0) = some (Value.string ⟨⟨l6⟩⟩) ∧ ∃ (l8 : List UInt8), cellAt H2 (Addr.add
    ⟨g3, 0, none⟩ 0) = some (Value.string ⟨⟨l8⟩⟩) ∧ CallsH Tryd.prog 27 ⟨[(Value.string ⟨⟨l6⟩⟩), (Value.string ⟨⟨l8⟩⟩)]⟩ H2 (fun r9 H3 => ∃ (n9 : Int), r9 = (Value.int .i64 n9) ∧ R (Value.int .i64 n9)
    H3)
theorem queue_sorted_1.eq (csarg0 : Array Value) (csarg1 : Array Value) (R : Value → Heap → Prop) (H0 : Heap) : funcVC Tryd.prog tab fns [] [] Tryd.f45 [(Value.agg csarg0), (Value.agg csarg1)] R H0 = queue_sorted_1.vc csarg0 csarg1 R H0 := by kernel_rfl
theorem queue_sorted_1.ok {csarg0 : Array Value} {csarg1 : Array Value} {R : Value → Heap → Prop} {H0 : Heap} (h : queue_sorted_1.vc csarg0 csarg1 R H0) : CallsH Tryd.prog 45 ⟨[(Value.agg csarg0), (Value.agg csarg1)]⟩ H0 R :=
  funcVC_sound tab_ok fns_ok mixed_ok Tryd.func45 (cast (queue_sorted_1.eq csarg0 csarg1 R H0).symm h)

/-- caravan/queue.no -/
def queue_no.vc (csarg0 : Array Value) (barg1 : Bool) (R : Value → Heap → Prop) (H0 : Heap) : Prop :=
  ∀ g2 H1, NewB H0 35 csarg0 g2 H1 → ∃ (b8 : Bool), (barg1 = true → cellAt H1 (Addr.add ⟨g2, 0, none⟩ 2) = some (Value.bool b8)) ∧ ∃ (n13 : Int), ((cond barg1 (!b8) false) = true → cellAt H1 (Addr.add
    ⟨g2, 0, none⟩ 1) = some (Value.int .i64 n13)) ∧ R (Value.bool (cond (cond barg1 (!b8) false) (n13 != (2 : Int)) false)) H1
theorem queue_no.eq (csarg0 : Array Value) (barg1 : Bool) (R : Value → Heap → Prop) (H0 : Heap) : funcVC Tryd.prog tab fns [] [] Tryd.f46 [(Value.agg csarg0), (Value.bool barg1)] R H0 = queue_no.vc csarg0 barg1 R H0 := by kernel_rfl
theorem queue_no.ok {csarg0 : Array Value} {barg1 : Bool} {R : Value → Heap → Prop} {H0 : Heap} (h : queue_no.vc csarg0 barg1 R H0) : CallsH Tryd.prog 46 ⟨[(Value.agg csarg0), (Value.bool barg1)]⟩ H0 R :=
  funcVC_sound tab_ok fns_ok mixed_ok Tryd.func46 (cast (queue_no.eq csarg0 barg1 R H0).symm h)

/-- caravan/caravanref02.May -/
def caravanref02_May.vc (larg0 : List UInt8) (R : Value → Heap → Prop) (H0 : Heap) : Prop :=
  CallsH Tryd.prog 61 ⟨[(Value.string ⟨⟨larg0⟩⟩)]⟩ H0 (fun r6 H1 => ∃ (a6 : Option Addr) (len6 cap6 : Nat), r6 = (Value.slice a6 len6 cap6) ∧ (((decide (((List.length larg0 : Nat) : Int) > (160 : Int)))
    = true → R (Value.bool false) H1) ∧ ((decide (((List.length larg0 : Nat) : Int) > (160 : Int))) = false → CallsH Tryd.prog 62 ⟨[(Value.string ⟨⟨larg0⟩⟩)]⟩ H1 (fun r12 H2 => ∃ (l12 : List UInt8),
    r12 = (Value.string ⟨⟨l12⟩⟩) ∧ (((cond (decide (((List.length l12 : Nat) : Int) > (111 : Int))) true (decide (((len6 : Nat) : Int) > (6 : Int)))) = true → R (Value.bool false) H2) ∧ ((cond (decide
    (((List.length l12 : Nat) : Int) > (111 : Int))) true (decide (((len6 : Nat) : Int) > (6 : Int)))) = false → ∃ (I5 : List Value → Heap → Prop) (m5 : List Value → Heap → Nat), ((∃ n : Int,
    (Value.int .i64 (0 : Int)) = Value.int .i64 n) ∧ I5 [(Value.int .i64 (0 : Int))] H2) ∧ (∀ (n4 : Int), ∀ H3, I5 [(Value.int .i64 n4)] H3 → (((decide (n4 < ((len6 : Nat) : Int))) = true → ∃ ad29,
    (a6 = some ad29 ∧ 0 ≤ n4 ∧ n4 < ((len6 : Nat) : Int)) ∧ ∃ (l30 : List UInt8), cellAt H3 (Addr.add ad29 (Int.toNat n4 * 1)) = some (Value.string ⟨⟨l30⟩⟩) ∧ CallsH Tryd.prog 63 ⟨[(Value.string
    ⟨⟨l30⟩⟩)]⟩ H3 (fun r31 H4 => ∃ (b31 : Bool), r31 = (Value.bool b31) ∧ (((!b31) = true → R (Value.bool false) H4) ∧ ((!b31) = false → (∃ n : Int, (Value.int .i64 (IntKind.wrap .i64 (n4 + (1 :
    Int)))) = Value.int .i64 n) ∧ I5 [(Value.int .i64 (IntKind.wrap .i64 (n4 + (1 : Int))))] H4 ∧ m5 [(Value.int .i64 (IntKind.wrap .i64 (n4 + (1 : Int))))] H4 < m5 [(Value.int .i64 n4)] H3)))) ∧
    ((decide (n4 < ((len6 : Nat) : Int))) = false → R (Value.bool true) H3)))))))))
theorem caravanref02_May.eq (larg0 : List UInt8) (R : Value → Heap → Prop) (H0 : Heap) : funcVC Tryd.prog tab fns [] [(5, [(4, 3)])] Tryd.f47 [(Value.string ⟨⟨larg0⟩⟩)] R H0 = caravanref02_May.vc larg0 R H0 := by kernel_rfl
theorem caravanref02_May.ok {larg0 : List UInt8} {R : Value → Heap → Prop} {H0 : Heap} (h : caravanref02_May.vc larg0 R H0) : CallsH Tryd.prog 47 ⟨[(Value.string ⟨⟨larg0⟩⟩)]⟩ H0 R :=
  funcVC_sound tab_ok fns_ok mixed_ok Tryd.func47 (cast (caravanref02_May.eq larg0 R H0).symm h)

/-- caravan/caravanref02.Cmp -/
def caravanref02_Cmp.vc (larg0 : List UInt8) (larg1 : List UInt8) (R : Value → Heap → Prop) (H0 : Heap) : Prop :=
  ∃ (I2 : List Value → Heap → Prop) (m2 : List Value → Heap → Nat), ((∃ n : Int, (Value.int .i64 (0 : Int)) = Value.int .i64 n) ∧ I2 [(Value.int .i64 (0 : Int))] H0) ∧ (∀ (n5 : Int), ∀ H1, I2
    [(Value.int .i64 n5)] H1 → (((cond (decide (n5 ≤ ((List.length larg0 : Nat) : Int))) true (decide (n5 ≤ ((List.length larg1 : Nat) : Int)))) = true → CallsH Tryd.prog 64 ⟨[(Value.string
    ⟨⟨larg0⟩⟩), (Value.int .i64 n5)]⟩ H1 (fun r22 H2 => ∃ (n22 : Int), r22 = (Value.int .i64 n22) ∧ CallsH Tryd.prog 64 ⟨[(Value.string ⟨⟨larg1⟩⟩), (Value.int .i64 n5)]⟩ H2 (fun r25 H3 => ∃ (n25 :
    Int), r25 = (Value.int .i64 n25) ∧ (((decide (n22 < n25)) = true → R (Value.int .i64 (-1 : Int)) H3) ∧ ((decide (n22 < n25)) = false → (((decide (n22 > n25)) = true → R (Value.int .i64 (1 : Int))
    H3) ∧ ((decide (n22 > n25)) = false → (∃ n : Int, (Value.int .i64 (IntKind.wrap .i64 (n5 + (1 : Int)))) = Value.int .i64 n) ∧ I2 [(Value.int .i64 (IntKind.wrap .i64 (n5 + (1 : Int))))] H3 ∧ m2
    [(Value.int .i64 (IntKind.wrap .i64 (n5 + (1 : Int))))] H3 < m2 [(Value.int .i64 n5)] H1))))))) ∧ ((cond (decide (n5 ≤ ((List.length larg0 : Nat) : Int))) true (decide (n5 ≤ ((List.length larg1 :
    Nat) : Int)))) = false → R (Value.int .i64 (0 : Int)) H1)))
theorem caravanref02_Cmp.eq (larg0 : List UInt8) (larg1 : List UInt8) (R : Value → Heap → Prop) (H0 : Heap) : funcVC Tryd.prog tab fns [] [(2, [(5, 3)])] Tryd.f48 [(Value.string ⟨⟨larg0⟩⟩), (Value.string ⟨⟨larg1⟩⟩)] R H0 = caravanref02_Cmp.vc larg0 larg1 R H0 := by kernel_rfl
theorem caravanref02_Cmp.ok {larg0 : List UInt8} {larg1 : List UInt8} {R : Value → Heap → Prop} {H0 : Heap} (h : caravanref02_Cmp.vc larg0 larg1 R H0) : CallsH Tryd.prog 48 ⟨[(Value.string ⟨⟨larg0⟩⟩), (Value.string ⟨⟨larg1⟩⟩)]⟩ H0 R :=
  funcVC_sound tab_ok fns_ok mixed_ok Tryd.func48 (cast (caravanref02_Cmp.eq larg0 larg1 R H0).symm h)

/-- caravan/caravanref20.Of -/
def caravanref20_Of.vc (aarg0 : Option Addr) (lenarg0 _caparg0 : Nat) (larg1 : List UInt8) (R : Value → Heap → Prop) (H0 : Heap) : Prop :=
  ∀ g4 H1, NewB H0 35 (zc 35) g4 H1 → ∃ (I2 : List Value → Heap → Prop) (m2 : List Value → Heap → Nat), ((∃ n : Int, (Value.int .i64 (0 : Int)) = Value.int .i64 n) ∧ I2 [(Value.int .i64 (0 : Int))] H1)
    ∧ (∀ (n6 : Int), ∀ H2, I2 [(Value.int .i64 n6)] H2 → (((decide (n6 < ((lenarg0 : Nat) : Int))) = true → ∃ ad15, (aarg0 = some ad15 ∧ 0 ≤ n6 ∧ n6 < ((lenarg0 : Nat) : Int)) ∧ ∃ (l17 : List UInt8),
    cellAt H2 (Addr.add (Addr.add ad15 (Int.toNat n6 * 27)) 0) = some (Value.string ⟨⟨l17⟩⟩) ∧ (((l17 == larg1) = true → ∃ ad22, (aarg0 = some ad22 ∧ 0 ≤ n6 ∧ n6 < ((lenarg0 : Nat) : Int)) ∧ ∃ cs23,
    RdN H2 (Addr.add ad22 (Int.toNat n6 * 27)) 27 cs23 ∧ ∃ H3, cs23.size = 27 ∧ wrN H2 ⟨g4, 0, none⟩ cs23.toList 0 = some H3 ∧ ∃ csres, RdN H3 ⟨g4, 0, none⟩ 27 csres ∧ R (Value.tuple ⟨[(Value.agg
    csres), (Value.bool true)]⟩) H3) ∧ ((l17 == larg1) = false → (∃ n : Int, (Value.int .i64 (IntKind.wrap .i64 (n6 + (1 : Int)))) = Value.int .i64 n) ∧ I2 [(Value.int .i64 (IntKind.wrap .i64 (n6 + (1
    : Int))))] H2 ∧ m2 [(Value.int .i64 (IntKind.wrap .i64 (n6 + (1 : Int))))] H2 < m2 [(Value.int .i64 n6)] H2))) ∧ ((decide (n6 < ((lenarg0 : Nat) : Int))) = false → ∃ (cs24 : Array Value), PureV
    Tryd.prog (Instr.build 35 ⟨[]⟩) (Value.agg cs24) ∧ ∃ H4, cs24.size = 27 ∧ wrN H2 ⟨g4, 0, none⟩ cs24.toList 0 = some H4 ∧ ∃ csres_1, RdN H4 ⟨g4, 0, none⟩ 27 csres_1 ∧ R (Value.tuple ⟨[(Value.agg
    csres_1), (Value.bool false)]⟩) H4)))
theorem caravanref20_Of.eq (aarg0 : Option Addr) (lenarg0 caparg0 : Nat) (larg1 : List UInt8) (R : Value → Heap → Prop) (H0 : Heap) : funcVC Tryd.prog tab fns [] [(2, [(6, 3)])] Tryd.f49 [(Value.slice aarg0 lenarg0 caparg0), (Value.string ⟨⟨larg1⟩⟩)] R H0 = caravanref20_Of.vc aarg0 lenarg0 caparg0 larg1 R H0 := by kernel_rfl
theorem caravanref20_Of.ok {aarg0 : Option Addr} {lenarg0 caparg0 : Nat} {larg1 : List UInt8} {R : Value → Heap → Prop} {H0 : Heap} (h : caravanref20_Of.vc aarg0 lenarg0 caparg0 larg1 R H0) : CallsH Tryd.prog 49 ⟨[(Value.slice aarg0 lenarg0 caparg0), (Value.string ⟨⟨larg1⟩⟩)]⟩ H0 R :=
  funcVC_sound tab_ok fns_ok mixed_ok Tryd.func49 (cast (caravanref20_Of.eq aarg0 lenarg0 caparg0 larg1 R H0).symm h)

/-- caravan/caravanref02.Within -/
def caravanref02_Within.vc (larg0 : List UInt8) (larg1 : List UInt8) (R : Value → Heap → Prop) (H0 : Heap) : Prop :=
  CallsH Tryd.prog 47 ⟨[(Value.string ⟨⟨larg0⟩⟩)]⟩ H0 (fun r6 H1 => ∃ (b6 : Bool), r6 = (Value.bool b6) ∧ (((!b6) = true → R (Value.bool false) H1) ∧ ((!b6) = false → (((!(larg1 == [])) = true → CallsH
    Tryd.prog 47 ⟨[(Value.string ⟨⟨larg1⟩⟩)]⟩ H1 (fun r13 H2 => ∃ (b13 : Bool), r13 = (Value.bool b13) ∧ (((!b13) = true → R (Value.bool false) H2) ∧ ((!b13) = false → (((larg1 == []) = true → R
    (Value.bool true) H2) ∧ ((larg1 == []) = false → ((decide (((List.length larg0 : Nat) : Int) > ((List.length larg1 : Nat) : Int))) = true → (0 ≤ ((List.length larg1 : Nat) : Int) ∧ ((List.length
    larg1 : Nat) : Int) ≤ ((List.length larg0 : Nat) : Int))) ∧ ∃ c36 : UInt8, ((cond (decide (((List.length larg0 : Nat) : Int) > ((List.length larg1 : Nat) : Int))) ((List.take ((Int.toNat
    ((List.length larg1 : Nat) : Int)) - 0) (List.drop 0 larg0)) == larg1) false) = true → (0 ≤ ((List.length larg1 : Nat) : Int) ∧ larg0[Int.toNat ((List.length larg1 : Nat) : Int)]? = some c36)) ∧ R
    (Value.bool (cond (cond (decide (((List.length larg0 : Nat) : Int) > ((List.length larg1 : Nat) : Int))) ((List.take ((Int.toNat ((List.length larg1 : Nat) : Int)) - 0) (List.drop 0 larg0)) ==
    larg1) false) (((UInt8.toNat c36 : Nat) : Int) == (47 : Int)) false)) H2)))))) ∧ ((!(larg1 == [])) = false → (((larg1 == []) = true → R (Value.bool true) H1) ∧ ((larg1 == []) = false → ((decide
    (((List.length larg0 : Nat) : Int) > ((List.length larg1 : Nat) : Int))) = true → (0 ≤ ((List.length larg1 : Nat) : Int) ∧ ((List.length larg1 : Nat) : Int) ≤ ((List.length larg0 : Nat) : Int))) ∧
    ∃ c36_1 : UInt8, ((cond (decide (((List.length larg0 : Nat) : Int) > ((List.length larg1 : Nat) : Int))) ((List.take ((Int.toNat ((List.length larg1 : Nat) : Int)) - 0) (List.drop 0 larg0)) ==
    larg1) false) = true → (0 ≤ ((List.length larg1 : Nat) : Int) ∧ larg0[Int.toNat ((List.length larg1 : Nat) : Int)]? = some c36_1)) ∧ R (Value.bool (cond (cond (decide (((List.length larg0 : Nat) :
    Int) > ((List.length larg1 : Nat) : Int))) ((List.take ((Int.toNat ((List.length larg1 : Nat) : Int)) - 0) (List.drop 0 larg0)) == larg1) false) (((UInt8.toNat c36_1 : Nat) : Int) == (47 : Int))
    false)) H1)))))))
theorem caravanref02_Within.eq (larg0 : List UInt8) (larg1 : List UInt8) (R : Value → Heap → Prop) (H0 : Heap) : funcVC Tryd.prog tab fns [] [] Tryd.f50 [(Value.string ⟨⟨larg0⟩⟩), (Value.string ⟨⟨larg1⟩⟩)] R H0 = caravanref02_Within.vc larg0 larg1 R H0 := by kernel_rfl
theorem caravanref02_Within.ok {larg0 : List UInt8} {larg1 : List UInt8} {R : Value → Heap → Prop} {H0 : Heap} (h : caravanref02_Within.vc larg0 larg1 R H0) : CallsH Tryd.prog 50 ⟨[(Value.string ⟨⟨larg0⟩⟩), (Value.string ⟨⟨larg1⟩⟩)]⟩ H0 R :=
  funcVC_sound tab_ok fns_ok mixed_ok Tryd.func50 (cast (caravanref02_Within.eq larg0 larg1 R H0).symm h)

/-- caravan/caravanref06.Same -/
def caravanref06_Same.vc (csarg0 : Array Value) (csarg1 : Array Value) (R : Value → Heap → Prop) (H0 : Heap) : Prop :=
  ∀ g2 H1, NewB H0 35 csarg0 g2 H1 → ∀ g3 H2, NewB H1 35 csarg1 g3 H2 → ∃ (l6 : List UInt8), cellAt H2 (Addr.add ⟨g2, 0, none⟩ 0) = some (Value.string ⟨⟨l6⟩⟩) ∧ ∃ (l8 : List UInt8), cellAt H2 (Addr.add
    ⟨g3, 0, none⟩ 0) = some (Value.string ⟨⟨l8⟩⟩) ∧ ∃ (n12 : Int), ((l6 == l8) = true → cellAt H2 (Addr.add ⟨g2, 0, none⟩ 4) = some (Value.int .i64 n12)) ∧ ∃ (n14 : Int), ((l6 == l8) = true → cellAt
    H2 (Addr.add ⟨g3, 0, none⟩ 4) = some (Value.int .i64 n14)) ∧ ∃ (n19 : Int), ((cond (l6 == l8) (n12 == n14) false) = true → cellAt H2 (Addr.add ⟨g2, 0, none⟩ 5) = some (Value.int .i64 n19)) ∧ ∃
    (n21 : Int), ((cond (l6 == l8) (n12 == n14) false) = true → cellAt H2 (Addr.add ⟨g3, 0, none⟩ 5) = some (Value.int .i64 n21)) ∧ ∃ cs26, ((cond (cond (l6 == l8) (n12 == n14) false) (n19 == n21)
    false) = true → RdN H2 (Addr.add ⟨g2, 0, none⟩ 6) 16 cs26) ∧ ∃ cs28, ((cond (cond (l6 == l8) (n12 == n14) false) (n19 == n21) false) = true → RdN H2 (Addr.add ⟨g3, 0, none⟩ 6) 16 cs28) ∧ ∃ e29 :
    Bool, ((cond (cond (l6 == l8) (n12 == n14) false) (n19 == n21) false) = true → EqA Tryd.prog 32 cs26 cs28 e29) ∧ ∃ (n33 : Int), ((cond (cond (cond (l6 == l8) (n12 == n14) false) (n19 == n21)
    false) e29 false) = true → cellAt H2 (Addr.add ⟨g2, 0, none⟩ 22) = some (Value.int .i64 n33)) ∧ ∃ (n35 : Int), ((cond (cond (cond (l6 == l8) (n12 == n14) false) (n19 == n21) false) e29 false) =
    true → cellAt H2 (Addr.add ⟨g3, 0, none⟩ 22) = some (Value.int .i64 n35)) ∧ ∃ (n40 : Int), ((cond (cond (cond (cond (l6 == l8) (n12 == n14) false) (n19 == n21) false) e29 false) (n33 == n35)
    false) = true → cellAt H2 (Addr.add ⟨g2, 0, none⟩ 26) = some (Value.int .i64 n40)) ∧ ∃ (n42 : Int), ((cond (cond (cond (cond (l6 == l8) (n12 == n14) false) (n19 == n21) false) e29 false) (n33 ==
    n35) false) = true → cellAt H2 (Addr.add ⟨g3, 0, none⟩ 26) = some (Value.int .i64 n42)) ∧ ∃ cs46, ((cond (cond (cond (cond (cond (l6 == l8) (n12 == n14) false) (n19 == n21) false) e29 false) (n33
    == n35) false) (n40 == n42) false) = true → RdN H2 ⟨g2, 0, none⟩ 27 cs46) ∧ ∃ cs47, ((cond (cond (cond (cond (cond (l6 == l8) (n12 == n14) false) (n19 == n21) false) e29 false) (n33 == n35) false)
    (n40 == n42) false) = true → RdN H2 ⟨g3, 0, none⟩ 27 cs47) ∧ (((cond (cond (cond (cond (cond (l6 == l8) (n12 == n14) false) (n19 == n21) false) e29 false) (n33 == n35) false) (n40 == n42) false) =
    true → CallsH Tryd.prog 65 ⟨[(Value.agg cs46), (Value.agg cs47)]⟩ H2 (fun r48 H3 => ∃ (b48 : Bool), r48 = (Value.bool b48) ∧ R (Value.bool b48) H3)) ∧ ((cond (cond (cond (cond (cond (l6 == l8)
    (n12 == n14) false) (n19 == n21) false) e29 false) (n33 == n35) false) (n40 == n42) false) = false → R (Value.bool false) H2))
theorem caravanref06_Same.eq (csarg0 : Array Value) (csarg1 : Array Value) (R : Value → Heap → Prop) (H0 : Heap) : funcVC Tryd.prog tab fns [] [] Tryd.f51 [(Value.agg csarg0), (Value.agg csarg1)] R H0 = caravanref06_Same.vc csarg0 csarg1 R H0 := by kernel_rfl
theorem caravanref06_Same.ok {csarg0 : Array Value} {csarg1 : Array Value} {R : Value → Heap → Prop} {H0 : Heap} (h : caravanref06_Same.vc csarg0 csarg1 R H0) : CallsH Tryd.prog 51 ⟨[(Value.agg csarg0), (Value.agg csarg1)]⟩ H0 R :=
  funcVC_sound tab_ok fns_ok mixed_ok Tryd.func51 (cast (caravanref06_Same.eq csarg0 csarg1 R H0).symm h)

/-- strings.HasPrefix -/
def strings_HasPrefix.vc (larg0 : List UInt8) (larg1 : List UInt8) (R : Value → Heap → Prop) (H0 : Heap) : Prop :=
  CallsH Tryd.prog 66 ⟨[(Value.string ⟨⟨larg0⟩⟩), (Value.string ⟨⟨larg1⟩⟩)]⟩ H0 (fun r7 H1 => ∃ (b7 : Bool), r7 = (Value.bool b7) ∧ R (Value.bool b7) H1)
theorem strings_HasPrefix.eq (larg0 : List UInt8) (larg1 : List UInt8) (R : Value → Heap → Prop) (H0 : Heap) : funcVC Tryd.prog tab fns [] [] Tryd.f52 [(Value.string ⟨⟨larg0⟩⟩), (Value.string ⟨⟨larg1⟩⟩)] R H0 = strings_HasPrefix.vc larg0 larg1 R H0 := by kernel_rfl
theorem strings_HasPrefix.ok {larg0 : List UInt8} {larg1 : List UInt8} {R : Value → Heap → Prop} {H0 : Heap} (h : strings_HasPrefix.vc larg0 larg1 R H0) : CallsH Tryd.prog 52 ⟨[(Value.string ⟨⟨larg0⟩⟩), (Value.string ⟨⟨larg1⟩⟩)]⟩ H0 R :=
  funcVC_sound tab_ok fns_ok mixed_ok Tryd.func52 (cast (strings_HasPrefix.eq larg0 larg1 R H0).symm h)

/-- slices.Equal[[]caravan/api.Hash,caravan/api.Hash] -/
def slices_Equal_api_Hash_api_Hash.vc (aarg0 : Option Addr) (lenarg0 _caparg0 : Nat) (aarg1 : Option Addr) (lenarg1 _caparg1 : Nat) (R : Value → Heap → Prop) (H0 : Heap) : Prop :=
  (((((lenarg0 : Nat) : Int) != ((lenarg1 : Nat) : Int)) = true → R (Value.bool false) H0) ∧ ((((lenarg0 : Nat) : Int) != ((lenarg1 : Nat) : Int)) = false → ∃ (I4 : List Value → Heap → Prop) (m4 : List
    Value → Heap → Nat), ((∃ n : Int, (Value.int .i64 (0 : Int)) = Value.int .i64 n) ∧ I4 [(Value.int .i64 (0 : Int))] H0) ∧ (∀ (n13 : Int), ∀ H1, I4 [(Value.int .i64 n13)] H1 → (((decide (n13 <
    ((lenarg0 : Nat) : Int))) = true → ∃ ad18, (aarg0 = some ad18 ∧ 0 ≤ n13 ∧ n13 < ((lenarg0 : Nat) : Int)) ∧ ∃ cs19, RdN H1 (Addr.add ad18 (Int.toNat n13 * 32)) 32 cs19 ∧ ∃ ad22, (aarg1 = some ad22
    ∧ 0 ≤ n13 ∧ n13 < ((lenarg1 : Nat) : Int)) ∧ ∃ cs23, RdN H1 (Addr.add ad22 (Int.toNat n13 * 32)) 32 cs23 ∧ ∃ e24 : Bool, EqA Tryd.prog 68 cs19 cs23 e24 ∧ (((!(e24)) = true → R (Value.bool false)
    H1) ∧ ((!(e24)) = false → (∃ n : Int, (Value.int .i64 (IntKind.wrap .i64 (n13 + (1 : Int)))) = Value.int .i64 n) ∧ I4 [(Value.int .i64 (IntKind.wrap .i64 (n13 + (1 : Int))))] H1 ∧ m4 [(Value.int
    .i64 (IntKind.wrap .i64 (n13 + (1 : Int))))] H1 < m4 [(Value.int .i64 n13)] H1))) ∧ ((decide (n13 < ((lenarg0 : Nat) : Int))) = false → R (Value.bool true) H1)))))
theorem slices_Equal_api_Hash_api_Hash.eq (aarg0 : Option Addr) (lenarg0 caparg0 : Nat) (aarg1 : Option Addr) (lenarg1 caparg1 : Nat) (R : Value → Heap → Prop) (H0 : Heap) : funcVC Tryd.prog tab fns [] [(4, [(13, 3)])] Tryd.f53 [(Value.slice aarg0 lenarg0 caparg0), (Value.slice aarg1 lenarg1 caparg1)] R H0 = slices_Equal_api_Hash_api_Hash.vc aarg0 lenarg0 caparg0 aarg1 lenarg1 caparg1 R H0 := by kernel_rfl
theorem slices_Equal_api_Hash_api_Hash.ok {aarg0 : Option Addr} {lenarg0 caparg0 : Nat} {aarg1 : Option Addr} {lenarg1 caparg1 : Nat} {R : Value → Heap → Prop} {H0 : Heap} (h : slices_Equal_api_Hash_api_Hash.vc aarg0 lenarg0 caparg0 aarg1 lenarg1 caparg1 R H0) : CallsH Tryd.prog 53 ⟨[(Value.slice aarg0 lenarg0 caparg0), (Value.slice aarg1 lenarg1 caparg1)]⟩ H0 R :=
  funcVC_sound tab_ok fns_ok mixed_ok Tryd.func53 (cast (slices_Equal_api_Hash_api_Hash.eq aarg0 lenarg0 caparg0 aarg1 lenarg1 caparg1 R H0).symm h)

/-- caravan/path.split -/
def path_split.vc (larg0 : List UInt8) (R : Value → Heap → Prop) (H0 : Heap) : Prop :=
  CallsH Tryd.prog 67 ⟨[(Value.string ⟨⟨larg0⟩⟩), (Value.int .u8 (47 : Int))]⟩ H0 (fun r6 H1 => ∃ (n6 : Int), r6 = (Value.int .i64 n6) ∧ (0 ≤ (if (0 : Int) > n6 then (0 : Int) else n6) ∧ (if (0 : Int) >
    n6 then (0 : Int) else n6) ≤ ((List.length larg0 : Nat) : Int)) ∧ (0 ≤ (IntKind.wrap .i64 (n6 + (1 : Int))) ∧ (IntKind.wrap .i64 (n6 + (1 : Int))) ≤ ((List.length larg0 : Nat) : Int)) ∧ R
    (Value.tuple ⟨[(Value.string ⟨⟨List.take ((Int.toNat (if (0 : Int) > n6 then (0 : Int) else n6)) - 0) (List.drop 0 larg0)⟩⟩), (Value.string ⟨⟨List.take ((List.length larg0) - (Int.toNat
    (IntKind.wrap .i64 (n6 + (1 : Int))))) (List.drop (Int.toNat (IntKind.wrap .i64 (n6 + (1 : Int)))) larg0)⟩⟩)]⟩) H1)
theorem path_split.eq (larg0 : List UInt8) (R : Value → Heap → Prop) (H0 : Heap) : funcVC Tryd.prog tab fns [] [] Tryd.f54 [(Value.string ⟨⟨larg0⟩⟩)] R H0 = path_split.vc larg0 R H0 := by kernel_rfl
theorem path_split.ok {larg0 : List UInt8} {R : Value → Heap → Prop} {H0 : Heap} (h : path_split.vc larg0 R H0) : CallsH Tryd.prog 54 ⟨[(Value.string ⟨⟨larg0⟩⟩)]⟩ H0 R :=
  funcVC_sound tab_ok fns_ok mixed_ok Tryd.func54 (cast (path_split.eq larg0 R H0).symm h)

/-- strings.Split -/
def strings_Split.vc (larg0 : List UInt8) (larg1 : List UInt8) (R : Value → Heap → Prop) (H0 : Heap) : Prop :=
  CallsH Tryd.prog 68 ⟨[(Value.string ⟨⟨larg0⟩⟩), (Value.string ⟨⟨larg1⟩⟩), (Value.int .i64 (0 : Int)), (Value.int .i64 (-1 : Int))]⟩ H0 (fun r7 H1 => ∃ (a7 : Option Addr) (len7 cap7 : Nat), r7 =
    (Value.slice a7 len7 cap7) ∧ R (Value.slice a7 len7 cap7) H1)
theorem strings_Split.eq (larg0 : List UInt8) (larg1 : List UInt8) (R : Value → Heap → Prop) (H0 : Heap) : funcVC Tryd.prog tab fns [] [] Tryd.f55 [(Value.string ⟨⟨larg0⟩⟩), (Value.string ⟨⟨larg1⟩⟩)] R H0 = strings_Split.vc larg0 larg1 R H0 := by kernel_rfl
theorem strings_Split.ok {larg0 : List UInt8} {larg1 : List UInt8} {R : Value → Heap → Prop} {H0 : Heap} (h : strings_Split.vc larg0 larg1 R H0) : CallsH Tryd.prog 55 ⟨[(Value.string ⟨⟨larg0⟩⟩), (Value.string ⟨⟨larg1⟩⟩)]⟩ H0 R :=
  funcVC_sound tab_ok fns_ok mixed_ok Tryd.func55 (cast (strings_Split.eq larg0 larg1 R H0).symm h)

/-- caravan/path.May$1 -/
def path_May_1.vc (larg0 : List UInt8) (gfree0 : Addr) (R : Value → Heap → Prop) (H0 : Heap) : Prop :=
  ∃ (b3 : Bool), cellAt H0 gfree0 = some (Value.bool b3) ∧ ((b3 = true → CallsH Tryd.prog 57 ⟨[(Value.string ⟨⟨larg0⟩⟩)]⟩ H0 (fun r6 H1 => ∃ (b6 : Bool), r6 = (Value.bool b6) ∧ ∃ H2, wr1 H1 gfree0
    (Value.bool b6) = some H2 ∧ R (Value.tuple ⟨[]⟩) H2)) ∧ (b3 = false → ∃ H3, wr1 H0 gfree0 (Value.bool false) = some H3 ∧ R (Value.tuple ⟨[]⟩) H3))
theorem path_May_1.eq (larg0 : List UInt8) (gfree0 : Addr) (R : Value → Heap → Prop) (H0 : Heap) : funcVC Tryd.prog tab fns [] [] Tryd.f56 [(Value.string ⟨⟨larg0⟩⟩), (Value.pointer (some gfree0))] R H0 = path_May_1.vc larg0 gfree0 R H0 := by kernel_rfl
theorem path_May_1.ok {larg0 : List UInt8} {gfree0 : Addr} {R : Value → Heap → Prop} {H0 : Heap} (h : path_May_1.vc larg0 gfree0 R H0) : CallsH Tryd.prog 56 ⟨[(Value.string ⟨⟨larg0⟩⟩), (Value.pointer (some gfree0))]⟩ H0 R :=
  funcVC_sound tab_ok fns_ok mixed_ok Tryd.func56 (cast (path_May_1.eq larg0 gfree0 R H0).symm h)

/-- caravan/path.Name -/
def path_Name.vc (larg0 : List UInt8) (R : Value → Heap → Prop) (H0 : Heap) : Prop :=
  (((cond (cond (cond (decide (((List.length larg0 : Nat) : Int) < (1 : Int))) true (decide (((List.length larg0 : Nat) : Int) > (48 : Int)))) true (larg0 == [46])) true (larg0 == [46, 46])) = true → R
    (Value.bool false) H0) ∧ ((cond (cond (cond (decide (((List.length larg0 : Nat) : Int) < (1 : Int))) true (decide (((List.length larg0 : Nat) : Int) > (48 : Int)))) true (larg0 == [46])) true
    (larg0 == [46, 46])) = false → ∃ (I4 : List Value → Heap → Prop) (m4 : List Value → Heap → Nat), ((∃ n : Int, (Value.int .i64 (0 : Int)) = Value.int .i64 n) ∧ I4 [(Value.int .i64 (0 : Int))] H0) ∧
    (∀ (n22 : Int), ∀ H1, I4 [(Value.int .i64 n22)] H1 → (((decide (n22 < ((List.length larg0 : Nat) : Int))) = true → ∃ c27 : UInt8, (0 ≤ n22 ∧ larg0[Int.toNat n22]? = some c27) ∧ ∃ c32 : UInt8,
    ((decide (((UInt8.toNat c27 : Nat) : Int) < (32 : Int))) = false → (0 ≤ n22 ∧ larg0[Int.toNat n22]? = some c32)) ∧ ∃ c38 : UInt8, ((cond (decide (((UInt8.toNat c27 : Nat) : Int) < (32 : Int)))
    true (((UInt8.toNat c32 : Nat) : Int) == (127 : Int))) = false → (0 ≤ n22 ∧ larg0[Int.toNat n22]? = some c38)) ∧ (((cond (cond (decide (((UInt8.toNat c27 : Nat) : Int) < (32 : Int))) true
    (((UInt8.toNat c32 : Nat) : Int) == (127 : Int))) true (((UInt8.toNat c38 : Nat) : Int) == (47 : Int))) = true → R (Value.bool false) H1) ∧ ((cond (cond (decide (((UInt8.toNat c27 : Nat) : Int) <
    (32 : Int))) true (((UInt8.toNat c32 : Nat) : Int) == (127 : Int))) true (((UInt8.toNat c38 : Nat) : Int) == (47 : Int))) = false → (∃ n : Int, (Value.int .i64 (IntKind.wrap .i64 (n22 + (1 :
    Int)))) = Value.int .i64 n) ∧ I4 [(Value.int .i64 (IntKind.wrap .i64 (n22 + (1 : Int))))] H1 ∧ m4 [(Value.int .i64 (IntKind.wrap .i64 (n22 + (1 : Int))))] H1 < m4 [(Value.int .i64 n22)] H1))) ∧
    ((decide (n22 < ((List.length larg0 : Nat) : Int))) = false → R (Value.bool true) H1)))))
theorem path_Name.eq (larg0 : List UInt8) (R : Value → Heap → Prop) (H0 : Heap) : funcVC Tryd.prog tab fns [] [(4, [(22, 3)])] Tryd.f57 [(Value.string ⟨⟨larg0⟩⟩)] R H0 = path_Name.vc larg0 R H0 := by kernel_rfl
theorem path_Name.ok {larg0 : List UInt8} {R : Value → Heap → Prop} {H0 : Heap} (h : path_Name.vc larg0 R H0) : CallsH Tryd.prog 57 ⟨[(Value.string ⟨⟨larg0⟩⟩)]⟩ H0 R :=
  funcVC_sound tab_ok fns_ok mixed_ok Tryd.func57 (cast (path_Name.eq larg0 R H0).symm h)

/-- caravan/path.Parent -/
def path_Parent.vc (larg0 : List UInt8) (R : Value → Heap → Prop) (H0 : Heap) : Prop :=
  CallsH Tryd.prog 41 ⟨[(Value.string ⟨⟨larg0⟩⟩)]⟩ H0 (fun r7 H1 => ∃ (b7 : Bool), r7 = (Value.bool b7) ∧ (((!b7) = true → R (Value.tuple ⟨[(Value.string ⟨⟨[]⟩⟩), (Value.bool false)]⟩) H1) ∧ ((!b7) =
    false → CallsH Tryd.prog 54 ⟨[(Value.string ⟨⟨larg0⟩⟩)]⟩ H1 (fun r11 H2 => ∃ (l11_0 : List UInt8), ∃ (l11_1 : List UInt8), r11 = (Value.tuple ⟨[(Value.string ⟨⟨l11_0⟩⟩), (Value.string
    ⟨⟨l11_1⟩⟩)]⟩) ∧ R (Value.tuple ⟨[(Value.string ⟨⟨l11_0⟩⟩), (Value.bool true)]⟩) H2))))
theorem path_Parent.eq (larg0 : List UInt8) (R : Value → Heap → Prop) (H0 : Heap) : funcVC Tryd.prog tab fns [] [] Tryd.f58 [(Value.string ⟨⟨larg0⟩⟩)] R H0 = path_Parent.vc larg0 R H0 := by kernel_rfl
theorem path_Parent.ok {larg0 : List UInt8} {R : Value → Heap → Prop} {H0 : Heap} (h : path_Parent.vc larg0 R H0) : CallsH Tryd.prog 58 ⟨[(Value.string ⟨⟨larg0⟩⟩)]⟩ H0 R :=
  funcVC_sound tab_ok fns_ok mixed_ok Tryd.func58 (cast (path_Parent.eq larg0 R H0).symm h)

/-- caravan/caravanref02.Pieces -/
def caravanref02_Pieces.vc (larg0 : List UInt8) (R : Value → Heap → Prop) (H0 : Heap) : Prop :=
  ∃ (I4 : List Value → Heap → Prop) (m4 : List Value → Heap → Nat), ((∃ (a : Option Addr) (l c : Nat), (Value.slice none 0 0) = Value.slice a l c) ∧ (∃ n : Int, (Value.int .i64 (0 : Int)) = Value.int
    .i64 n) ∧ (∃ n : Int, (Value.int .i64 (0 : Int)) = Value.int .i64 n) ∧ I4 [(Value.slice none 0 0), (Value.int .i64 (0 : Int)), (Value.int .i64 (0 : Int))] H0) ∧ (∀ (a3 : Option Addr) (len3 cap3 :
    Nat) (n4 : Int) (n5 : Int), ∀ H1, I4 [(Value.slice a3 len3 cap3), (Value.int .i64 n4), (Value.int .i64 n5)] H1 → (((decide (n5 < ((List.length larg0 : Nat) : Int))) = true → ∃ c14 : UInt8, (0 ≤ n5
    ∧ larg0[Int.toNat n5]? = some c14) ∧ (((((UInt8.toNat c14 : Nat) : Int) == (47 : Int)) = true → (0 ≤ n5 ∧ n5 ≤ ((List.length larg0 : Nat) : Int)) ∧ (0 ≤ n4 ∧ n4 ≤ ((Int.toNat n5 : Nat) : Int)) ∧
    SemH Tryd.prog (Instr.buildSlice 27 1 ⟨[(0, (Value.string ⟨⟨List.take ((Int.toNat n5) - (Int.toNat n4)) (List.drop (Int.toNat n4) larg0)⟩⟩))]⟩) H1 (fun r21 H2 => ∃ (a21 : Option Addr) (len21 cap21
    : Nat), r21 = (Value.slice a21 len21 cap21) ∧ SemH Tryd.prog (Builtin.append_ #[27, 27] 27 ⟨[(Value.slice a3 len3 cap3), (Value.slice a21 len21 cap21)]⟩) H2 (fun r22 H3 => ∃ (a22 : Option Addr)
    (len22 cap22 : Nat), r22 = (Value.slice a22 len22 cap22) ∧ (∃ (a : Option Addr) (l c : Nat), (Value.slice a22 len22 cap22) = Value.slice a l c) ∧ (∃ n : Int, (Value.int .i64 (IntKind.wrap .i64 (n5
    + (1 : Int)))) = Value.int .i64 n) ∧ (∃ n : Int, (Value.int .i64 (IntKind.wrap .i64 (n5 + (1 : Int)))) = Value.int .i64 n) ∧ I4 [(Value.slice a22 len22 cap22), (Value.int .i64 (IntKind.wrap .i64
    (n5 + (1 : Int)))), (Value.int .i64 (IntKind.wrap .i64 (n5 + (1 : Int))))] H3 ∧ m4 [(Value.slice a22 len22 cap22), (Value.int .i64 (IntKind.wrap .i64 (n5 + (1 : Int)))), (Value.int .i64
    (IntKind.wrap .i64 (n5 + (1 : Int))))] H3 < m4 [(Value.slice a3 len3 cap3), (Value.int .i64 n4), (Value.int .i64 n5)] H1))) ∧ ((((UInt8.toNat c14 : Nat) : Int) == (47 : Int)) = false → (∃ (a :
    Option Addr) (l c : Nat), (Value.slice a3 len3 cap3) = Value.slice a l c) ∧ (∃ n : Int, (Value.int .i64 n4) = Value.int .i64 n) ∧ (∃ n : Int, (Value.int .i64 (IntKind.wrap .i64 (n5 + (1 : Int))))
    = Value.int .i64 n) ∧ I4 [(Value.slice a3 len3 cap3), (Value.int .i64 n4), (Value.int .i64 (IntKind.wrap .i64 (n5 + (1 : Int))))] H1 ∧ m4 [(Value.slice a3 len3 cap3), (Value.int .i64 n4),
    (Value.int .i64 (IntKind.wrap .i64 (n5 + (1 : Int))))] H1 < m4 [(Value.slice a3 len3 cap3), (Value.int .i64 n4), (Value.int .i64 n5)] H1))) ∧ ((decide (n5 < ((List.length larg0 : Nat) : Int))) =
    false → (0 ≤ n4 ∧ n4 ≤ ((List.length larg0 : Nat) : Int)) ∧ SemH Tryd.prog (Instr.buildSlice 27 1 ⟨[(0, (Value.string ⟨⟨List.take ((List.length larg0) - (Int.toNat n4)) (List.drop (Int.toNat n4)
    larg0)⟩⟩))]⟩) H1 (fun r29 H4 => ∃ (a29 : Option Addr) (len29 cap29 : Nat), r29 = (Value.slice a29 len29 cap29) ∧ SemH Tryd.prog (Builtin.append_ #[27, 27] 27 ⟨[(Value.slice a3 len3 cap3),
    (Value.slice a29 len29 cap29)]⟩) H4 (fun r30 H5 => ∃ (a30 : Option Addr) (len30 cap30 : Nat), r30 = (Value.slice a30 len30 cap30) ∧ R (Value.slice a30 len30 cap30) H5)))))
theorem caravanref02_Pieces.eq (larg0 : List UInt8) (R : Value → Heap → Prop) (H0 : Heap) : funcVC Tryd.prog tab fns [] [(4, [(3, 27), (4, 3), (5, 3)])] Tryd.f61 [(Value.string ⟨⟨larg0⟩⟩)] R H0 = caravanref02_Pieces.vc larg0 R H0 := by kernel_rfl
theorem caravanref02_Pieces.ok {larg0 : List UInt8} {R : Value → Heap → Prop} {H0 : Heap} (h : caravanref02_Pieces.vc larg0 R H0) : CallsH Tryd.prog 61 ⟨[(Value.string ⟨⟨larg0⟩⟩)]⟩ H0 R :=
  funcVC_sound tab_ok fns_ok mixed_ok Tryd.func61 (cast (caravanref02_Pieces.eq larg0 R H0).symm h)

/-- caravan/caravanref02.ahead -/
def caravanref02_ahead.vc (larg0 : List UInt8) (R : Value → Heap → Prop) (H0 : Heap) : Prop :=
  CallsH Tryd.prog 79 ⟨[(Value.string ⟨⟨larg0⟩⟩)]⟩ H0 (fun r7 H1 => ∃ (l7 : List UInt8), r7 = (Value.string ⟨⟨l7⟩⟩) ∧ (((decide ((IntKind.wrap .i64 ((IntKind.wrap .i64 (((List.length larg0 : Nat) : Int)
    - ((List.length l7 : Nat) : Int))) - (1 : Int))) < (0 : Int))) = true → R (Value.string ⟨⟨[]⟩⟩) H1) ∧ ((decide ((IntKind.wrap .i64 ((IntKind.wrap .i64 (((List.length larg0 : Nat) : Int) -
    ((List.length l7 : Nat) : Int))) - (1 : Int))) < (0 : Int))) = false → (0 ≤ (IntKind.wrap .i64 ((IntKind.wrap .i64 (((List.length larg0 : Nat) : Int) - ((List.length l7 : Nat) : Int))) - (1 :
    Int))) ∧ (IntKind.wrap .i64 ((IntKind.wrap .i64 (((List.length larg0 : Nat) : Int) - ((List.length l7 : Nat) : Int))) - (1 : Int))) ≤ ((List.length larg0 : Nat) : Int)) ∧ R (Value.string
    ⟨⟨List.take ((Int.toNat (IntKind.wrap .i64 ((IntKind.wrap .i64 (((List.length larg0 : Nat) : Int) - ((List.length l7 : Nat) : Int))) - (1 : Int)))) - 0) (List.drop 0 larg0)⟩⟩) H1)))
theorem caravanref02_ahead.eq (larg0 : List UInt8) (R : Value → Heap → Prop) (H0 : Heap) : funcVC Tryd.prog tab fns [] [] Tryd.f62 [(Value.string ⟨⟨larg0⟩⟩)] R H0 = caravanref02_ahead.vc larg0 R H0 := by kernel_rfl
theorem caravanref02_ahead.ok {larg0 : List UInt8} {R : Value → Heap → Prop} {H0 : Heap} (h : caravanref02_ahead.vc larg0 R H0) : CallsH Tryd.prog 62 ⟨[(Value.string ⟨⟨larg0⟩⟩)]⟩ H0 R :=
  funcVC_sound tab_ok fns_ok mixed_ok Tryd.func62 (cast (caravanref02_ahead.eq larg0 R H0).symm h)

/-- caravan/caravanref02.Name -/
def caravanref02_Name.vc (larg0 : List UInt8) (R : Value → Heap → Prop) (H0 : Heap) : Prop :=
  (((cond (cond (cond (decide (((List.length larg0 : Nat) : Int) < (1 : Int))) true (decide (((List.length larg0 : Nat) : Int) > (48 : Int)))) true (larg0 == [46])) true (larg0 == [46, 46])) = true → R
    (Value.bool false) H0) ∧ ((cond (cond (cond (decide (((List.length larg0 : Nat) : Int) < (1 : Int))) true (decide (((List.length larg0 : Nat) : Int) > (48 : Int)))) true (larg0 == [46])) true
    (larg0 == [46, 46])) = false → ∃ (I4 : List Value → Heap → Prop) (m4 : List Value → Heap → Nat), ((∃ n : Int, (Value.int .i64 (0 : Int)) = Value.int .i64 n) ∧ I4 [(Value.int .i64 (0 : Int))] H0) ∧
    (∀ (n3 : Int), ∀ H1, I4 [(Value.int .i64 n3)] H1 → (((decide (n3 < ((List.length larg0 : Nat) : Int))) = true → ∃ c28 : UInt8, (0 ≤ n3 ∧ larg0[Int.toNat n3]? = some c28) ∧ ∃ c33 : UInt8, ((decide
    (((UInt8.toNat c28 : Nat) : Int) < (32 : Int))) = false → (0 ≤ n3 ∧ larg0[Int.toNat n3]? = some c33)) ∧ ∃ c39 : UInt8, ((cond (decide (((UInt8.toNat c28 : Nat) : Int) < (32 : Int))) true
    (((UInt8.toNat c33 : Nat) : Int) == (127 : Int))) = false → (0 ≤ n3 ∧ larg0[Int.toNat n3]? = some c39)) ∧ (((cond (cond (decide (((UInt8.toNat c28 : Nat) : Int) < (32 : Int))) true (((UInt8.toNat
    c33 : Nat) : Int) == (127 : Int))) true (((UInt8.toNat c39 : Nat) : Int) == (47 : Int))) = true → R (Value.bool false) H1) ∧ ((cond (cond (decide (((UInt8.toNat c28 : Nat) : Int) < (32 : Int)))
    true (((UInt8.toNat c33 : Nat) : Int) == (127 : Int))) true (((UInt8.toNat c39 : Nat) : Int) == (47 : Int))) = false → (∃ n : Int, (Value.int .i64 (IntKind.wrap .i64 (n3 + (1 : Int)))) = Value.int
    .i64 n) ∧ I4 [(Value.int .i64 (IntKind.wrap .i64 (n3 + (1 : Int))))] H1 ∧ m4 [(Value.int .i64 (IntKind.wrap .i64 (n3 + (1 : Int))))] H1 < m4 [(Value.int .i64 n3)] H1))) ∧ ((decide (n3 <
    ((List.length larg0 : Nat) : Int))) = false → R (Value.bool true) H1)))))
theorem caravanref02_Name.eq (larg0 : List UInt8) (R : Value → Heap → Prop) (H0 : Heap) : funcVC Tryd.prog tab fns [] [(4, [(3, 3)])] Tryd.f63 [(Value.string ⟨⟨larg0⟩⟩)] R H0 = caravanref02_Name.vc larg0 R H0 := by kernel_rfl
theorem caravanref02_Name.ok {larg0 : List UInt8} {R : Value → Heap → Prop} {H0 : Heap} (h : caravanref02_Name.vc larg0 R H0) : CallsH Tryd.prog 63 ⟨[(Value.string ⟨⟨larg0⟩⟩)]⟩ H0 R :=
  funcVC_sound tab_ok fns_ok mixed_ok Tryd.func63 (cast (caravanref02_Name.eq larg0 R H0).symm h)

/-- caravan/caravanref02.rank -/
def caravanref02_rank.vc (larg0 : List UInt8) (narg1 : Int) (R : Value → Heap → Prop) (H0 : Heap) : Prop :=
  (((decide (narg1 ≥ ((List.length larg0 : Nat) : Int))) = true → R (Value.int .i64 (0 : Int)) H0) ∧ ((decide (narg1 ≥ ((List.length larg0 : Nat) : Int))) = false → ∃ c11 : UInt8, (0 ≤ narg1 ∧
    larg0[Int.toNat narg1]? = some c11) ∧ (((((UInt8.toNat c11 : Nat) : Int) == (47 : Int)) = true → R (Value.int .i64 (1 : Int)) H0) ∧ ((((UInt8.toNat c11 : Nat) : Int) == (47 : Int)) = false → ∃ c15
    : UInt8, (0 ≤ narg1 ∧ larg0[Int.toNat narg1]? = some c15) ∧ R (Value.int .i64 (IntKind.wrap .i64 ((2 : Int) + (IntKind.wrap .i64 ((UInt8.toNat c15 : Nat) : Int))))) H0))))
theorem caravanref02_rank.eq (larg0 : List UInt8) (narg1 : Int) (R : Value → Heap → Prop) (H0 : Heap) : funcVC Tryd.prog tab fns [] [] Tryd.f64 [(Value.string ⟨⟨larg0⟩⟩), (Value.int .i64 narg1)] R H0 = caravanref02_rank.vc larg0 narg1 R H0 := by kernel_rfl
theorem caravanref02_rank.ok {larg0 : List UInt8} {narg1 : Int} {R : Value → Heap → Prop} {H0 : Heap} (h : caravanref02_rank.vc larg0 narg1 R H0) : CallsH Tryd.prog 64 ⟨[(Value.string ⟨⟨larg0⟩⟩), (Value.int .i64 narg1)]⟩ H0 R :=
  funcVC_sound tab_ok fns_ok mixed_ok Tryd.func64 (cast (caravanref02_rank.eq larg0 narg1 R H0).symm h)

/-- caravan/caravanref06.Content -/
def caravanref06_Content.vc (csarg0 : Array Value) (csarg1 : Array Value) (R : Value → Heap → Prop) (H0 : Heap) : Prop :=
  ∀ g2 H1, NewB H0 35 csarg0 g2 H1 → ∀ g3 H2, NewB H1 35 csarg1 g3 H2 → ∃ (b6 : Bool), cellAt H2 (Addr.add ⟨g2, 0, none⟩ 2) = some (Value.bool b6) ∧ ∃ (b8 : Bool), cellAt H2 (Addr.add ⟨g3, 0, none⟩ 2) =
    some (Value.bool b8) ∧ ∃ (n12 : Int), ((b6 == b8) = true → cellAt H2 (Addr.add ⟨g2, 0, none⟩ 1) = some (Value.int .i64 n12)) ∧ ∃ (n14 : Int), ((b6 == b8) = true → cellAt H2 (Addr.add ⟨g3, 0, none⟩
    1) = some (Value.int .i64 n14)) ∧ ∃ (n19 : Int), ((cond (b6 == b8) (n12 == n14) false) = true → cellAt H2 (Addr.add ⟨g2, 0, none⟩ 3) = some (Value.int .i64 n19)) ∧ ∃ (n21 : Int), ((cond (b6 == b8)
    (n12 == n14) false) = true → cellAt H2 (Addr.add ⟨g3, 0, none⟩ 3) = some (Value.int .i64 n21)) ∧ ∃ (l26 : List UInt8), ((cond (cond (b6 == b8) (n12 == n14) false) (n19 == n21) false) = true →
    cellAt H2 (Addr.add ⟨g2, 0, none⟩ 24) = some (Value.string ⟨⟨l26⟩⟩)) ∧ ∃ (l28 : List UInt8), ((cond (cond (b6 == b8) (n12 == n14) false) (n19 == n21) false) = true → cellAt H2 (Addr.add ⟨g3, 0,
    none⟩ 24) = some (Value.string ⟨⟨l28⟩⟩)) ∧ ∃ (a33 : Option Addr) (len33 cap33 : Nat), ((cond (cond (cond (b6 == b8) (n12 == n14) false) (n19 == n21) false) (l26 == l28) false) = true → cellAt H2
    (Addr.add ⟨g2, 0, none⟩ 23) = some (Value.slice a33 len33 cap33)) ∧ ∃ (a35 : Option Addr) (len35 cap35 : Nat), ((cond (cond (cond (b6 == b8) (n12 == n14) false) (n19 == n21) false) (l26 == l28)
    false) = true → cellAt H2 (Addr.add ⟨g3, 0, none⟩ 23) = some (Value.slice a35 len35 cap35)) ∧ (((cond (cond (cond (b6 == b8) (n12 == n14) false) (n19 == n21) false) (l26 == l28) false) = true →
    CallsH Tryd.prog 80 ⟨[(Value.slice a33 len33 cap33), (Value.slice a35 len35 cap35)]⟩ H2 (fun r36 H3 => ∃ (b36 : Bool), r36 = (Value.bool b36) ∧ R (Value.bool b36) H3)) ∧ ((cond (cond (cond (b6 ==
    b8) (n12 == n14) false) (n19 == n21) false) (l26 == l28) false) = false → R (Value.bool false) H2))
theorem caravanref06_Content.eq (csarg0 : Array Value) (csarg1 : Array Value) (R : Value → Heap → Prop) (H0 : Heap) : funcVC Tryd.prog tab fns [] [] Tryd.f65 [(Value.agg csarg0), (Value.agg csarg1)] R H0 = caravanref06_Content.vc csarg0 csarg1 R H0 := by kernel_rfl
theorem caravanref06_Content.ok {csarg0 : Array Value} {csarg1 : Array Value} {R : Value → Heap → Prop} {H0 : Heap} (h : caravanref06_Content.vc csarg0 csarg1 R H0) : CallsH Tryd.prog 65 ⟨[(Value.agg csarg0), (Value.agg csarg1)]⟩ H0 R :=
  funcVC_sound tab_ok fns_ok mixed_ok Tryd.func65 (cast (caravanref06_Content.eq csarg0 csarg1 R H0).symm h)

/-- internal/stringslite.HasPrefix -/
def internal_stringslite_HasPrefix.vc (larg0 : List UInt8) (larg1 : List UInt8) (R : Value → Heap → Prop) (H0 : Heap) : Prop :=
  ((decide (((List.length larg0 : Nat) : Int) ≥ ((List.length larg1 : Nat) : Int))) = true → (0 ≤ ((List.length larg1 : Nat) : Int) ∧ ((List.length larg1 : Nat) : Int) ≤ ((List.length larg0 : Nat) :
    Int))) ∧ R (Value.bool (cond (decide (((List.length larg0 : Nat) : Int) ≥ ((List.length larg1 : Nat) : Int))) ((List.take ((Int.toNat ((List.length larg1 : Nat) : Int)) - 0) (List.drop 0 larg0))
    == larg1) false)) H0
theorem internal_stringslite_HasPrefix.eq (larg0 : List UInt8) (larg1 : List UInt8) (R : Value → Heap → Prop) (H0 : Heap) : funcVC Tryd.prog tab fns [] [] Tryd.f66 [(Value.string ⟨⟨larg0⟩⟩), (Value.string ⟨⟨larg1⟩⟩)] R H0 = internal_stringslite_HasPrefix.vc larg0 larg1 R H0 := by kernel_rfl
theorem internal_stringslite_HasPrefix.ok {larg0 : List UInt8} {larg1 : List UInt8} {R : Value → Heap → Prop} {H0 : Heap} (h : internal_stringslite_HasPrefix.vc larg0 larg1 R H0) : CallsH Tryd.prog 66 ⟨[(Value.string ⟨⟨larg0⟩⟩), (Value.string ⟨⟨larg1⟩⟩)]⟩ H0 R :=
  funcVC_sound tab_ok fns_ok mixed_ok Tryd.func66 (cast (internal_stringslite_HasPrefix.eq larg0 larg1 R H0).symm h)

/-- strings.LastIndexByte -/
def strings_LastIndexByte.vc (larg0 : List UInt8) (narg1 : Int) (R : Value → Heap → Prop) (H0 : Heap) : Prop :=
  CallsH Tryd.prog 81 ⟨[(Value.string ⟨⟨larg0⟩⟩), (Value.int .u8 narg1)]⟩ H0 (fun r7 H1 => ∃ (n7 : Int), r7 = (Value.int .i64 n7) ∧ R (Value.int .i64 n7) H1)
theorem strings_LastIndexByte.eq (larg0 : List UInt8) (narg1 : Int) (R : Value → Heap → Prop) (H0 : Heap) : funcVC Tryd.prog tab fns [] [] Tryd.f67 [(Value.string ⟨⟨larg0⟩⟩), (Value.int .u8 narg1)] R H0 = strings_LastIndexByte.vc larg0 narg1 R H0 := by kernel_rfl
theorem strings_LastIndexByte.ok {larg0 : List UInt8} {narg1 : Int} {R : Value → Heap → Prop} {H0 : Heap} (h : strings_LastIndexByte.vc larg0 narg1 R H0) : CallsH Tryd.prog 67 ⟨[(Value.string ⟨⟨larg0⟩⟩), (Value.int .u8 narg1)]⟩ H0 R :=
  funcVC_sound tab_ok fns_ok mixed_ok Tryd.func67 (cast (strings_LastIndexByte.eq larg0 narg1 R H0).symm h)

/-- strings.genSplit -/
def strings_genSplit.vc (larg0 : List UInt8) (larg1 : List UInt8) (narg2 : Int) (narg3 : Int) (R : Value → Heap → Prop) (H0 : Heap) : Prop :=
  (((narg3 == (0 : Int)) = true → R (Value.slice none 0 0) H0) ∧ ((narg3 == (0 : Int)) = false → (((larg1 == []) = true → CallsH Tryd.prog 82 ⟨[(Value.string ⟨⟨larg0⟩⟩), (Value.int .i64 narg3)]⟩ H0 (fun
    r18 H1 => ∃ (a18 : Option Addr) (len18 cap18 : Nat), r18 = (Value.slice a18 len18 cap18) ∧ R (Value.slice a18 len18 cap18) H1)) ∧ ((larg1 == []) = false → (((decide (narg3 < (0 : Int))) = true →
    CallsH Tryd.prog 83 ⟨[(Value.string ⟨⟨larg0⟩⟩), (Value.string ⟨⟨larg1⟩⟩)]⟩ H0 (fun r23 H2 => ∃ (n23 : Int), r23 = (Value.int .i64 n23) ∧ SemH Tryd.prog (Instr.makeSlice 27 (Value.int .i64 (if
    (IntKind.wrap .i64 (((List.length larg0 : Nat) : Int) + (1 : Int))) < (IntKind.wrap .i64 (n23 + (1 : Int))) then (IntKind.wrap .i64 (((List.length larg0 : Nat) : Int) + (1 : Int))) else
    (IntKind.wrap .i64 (n23 + (1 : Int))))) (Value.int .i64 (if (IntKind.wrap .i64 (((List.length larg0 : Nat) : Int) + (1 : Int))) < (IntKind.wrap .i64 (n23 + (1 : Int))) then (IntKind.wrap .i64
    (((List.length larg0 : Nat) : Int) + (1 : Int))) else (IntKind.wrap .i64 (n23 + (1 : Int)))))) H2 (fun r31 H3 => ∃ (a31 : Option Addr) (len31 cap31 : Nat), r31 = (Value.slice a31 len31 cap31) ∧ ∃
    (I11 : List Value → Heap → Prop) (m11 : List Value → Heap → Nat), ((∃ l : List UInt8, (Value.string ⟨⟨larg0⟩⟩) = Value.string ⟨⟨l⟩⟩) ∧ (∃ n : Int, (Value.int .i64 (0 : Int)) = Value.int .i64 n) ∧
    I11 [(Value.string ⟨⟨larg0⟩⟩), (Value.int .i64 (0 : Int))] H3) ∧ (∀ (l0 : List UInt8) (n10 : Int), ∀ H4, I11 [(Value.string ⟨⟨l0⟩⟩), (Value.int .i64 n10)] H4 → (((decide (n10 < (IntKind.wrap .i64
    ((if (IntKind.wrap .i64 (((List.length larg0 : Nat) : Int) + (1 : Int))) < (IntKind.wrap .i64 (n23 + (1 : Int))) then (IntKind.wrap .i64 (((List.length larg0 : Nat) : Int) + (1 : Int))) else
    (IntKind.wrap .i64 (n23 + (1 : Int)))) - (1 : Int))))) = true → CallsH Tryd.prog 84 ⟨[(Value.string ⟨⟨l0⟩⟩), (Value.string ⟨⟨larg1⟩⟩)]⟩ H4 (fun r39 H5 => ∃ (n39 : Int), r39 = (Value.int .i64 n39)
    ∧ (((decide (n39 < (0 : Int))) = true → ∃ ad61, (a31 = some ad61 ∧ 0 ≤ n10 ∧ n10 < ((len31 : Nat) : Int)) ∧ ∃ H6, wr1 H5 (Addr.add ad61 (Int.toNat n10 * 1)) (Value.string ⟨⟨l0⟩⟩) = some H6 ∧ (0 ≤
    (IntKind.wrap .i64 (n10 + (1 : Int))) ∧ (IntKind.wrap .i64 (n10 + (1 : Int))) ≤ ((cap31 : Nat) : Int)) ∧ R (Value.slice (if cap31 = 0 then a31 else Option.map (fun z => Addr.add z (0 * 1)) a31)
    ((Int.toNat (IntKind.wrap .i64 (n10 + (1 : Int)))) - 0) (cap31 - 0)) H6) ∧ ((decide (n39 < (0 : Int))) = false → (0 ≤ (IntKind.wrap .i64 (n39 + narg2)) ∧ (IntKind.wrap .i64 (n39 + narg2)) ≤
    ((List.length l0 : Nat) : Int)) ∧ ∃ ad49, (a31 = some ad49 ∧ 0 ≤ n10 ∧ n10 < ((len31 : Nat) : Int)) ∧ ∃ H7, wr1 H5 (Addr.add ad49 (Int.toNat n10 * 1)) (Value.string ⟨⟨List.take ((Int.toNat
    (IntKind.wrap .i64 (n39 + narg2))) - 0) (List.drop 0 l0)⟩⟩) = some H7 ∧ (0 ≤ (IntKind.wrap .i64 (n39 + ((List.length larg1 : Nat) : Int))) ∧ (IntKind.wrap .i64 (n39 + ((List.length larg1 : Nat) :
    Int))) ≤ ((List.length l0 : Nat) : Int)) ∧ (∃ l : List UInt8, (Value.string ⟨⟨List.take ((List.length l0) - (Int.toNat (IntKind.wrap .i64 (n39 + ((List.length larg1 : Nat) : Int))))) (List.drop
    (Int.toNat (IntKind.wrap .i64 (n39 + ((List.length larg1 : Nat) : Int)))) l0)⟩⟩) = Value.string ⟨⟨l⟩⟩) ∧ (∃ n : Int, (Value.int .i64 (IntKind.wrap .i64 (n10 + (1 : Int)))) = Value.int .i64 n) ∧
    I11 [(Value.string ⟨⟨List.take ((List.length l0) - (Int.toNat (IntKind.wrap .i64 (n39 + ((List.length larg1 : Nat) : Int))))) (List.drop (Int.toNat (IntKind.wrap .i64 (n39 + ((List.length larg1 :
    Nat) : Int)))) l0)⟩⟩), (Value.int .i64 (IntKind.wrap .i64 (n10 + (1 : Int))))] H7 ∧ m11 [(Value.string ⟨⟨List.take ((List.length l0) - (Int.toNat (IntKind.wrap .i64 (n39 + ((List.length larg1 :
    Nat) : Int))))) (List.drop (Int.toNat (IntKind.wrap .i64 (n39 + ((List.length larg1 : Nat) : Int)))) l0)⟩⟩), (Value.int .i64 (IntKind.wrap .i64 (n10 + (1 : Int))))] H7 < m11 [(Value.string
    ⟨⟨l0⟩⟩), (Value.int .i64 n10)] H4)))) ∧ ((decide (n10 < (IntKind.wrap .i64 ((if (IntKind.wrap .i64 (((List.length larg0 : Nat) : Int) + (1 : Int))) < (IntKind.wrap .i64 (n23 + (1 : Int))) then
    (IntKind.wrap .i64 (((List.length larg0 : Nat) : Int) + (1 : Int))) else (IntKind.wrap .i64 (n23 + (1 : Int)))) - (1 : Int))))) = false → ∃ ad61_1, (a31 = some ad61_1 ∧ 0 ≤ n10 ∧ n10 < ((len31 :
    Nat) : Int)) ∧ ∃ H8, wr1 H4 (Addr.add ad61_1 (Int.toNat n10 * 1)) (Value.string ⟨⟨l0⟩⟩) = some H8 ∧ (0 ≤ (IntKind.wrap .i64 (n10 + (1 : Int))) ∧ (IntKind.wrap .i64 (n10 + (1 : Int))) ≤ ((cap31 :
    Nat) : Int)) ∧ R (Value.slice (if cap31 = 0 then a31 else Option.map (fun z => Addr.add z (0 * 1)) a31) ((Int.toNat (IntKind.wrap .i64 (n10 + (1 : Int)))) - 0) (cap31 - 0)) H8)))))) ∧ ((decide
    (narg3 < (0 : Int))) = false → SemH Tryd.prog (Instr.makeSlice 27 (Value.int .i64 (if (IntKind.wrap .i64 (((List.length larg0 : Nat) : Int) + (1 : Int))) < narg3 then (IntKind.wrap .i64
    (((List.length larg0 : Nat) : Int) + (1 : Int))) else narg3)) (Value.int .i64 (if (IntKind.wrap .i64 (((List.length larg0 : Nat) : Int) + (1 : Int))) < narg3 then (IntKind.wrap .i64 (((List.length
    larg0 : Nat) : Int) + (1 : Int))) else narg3))) H0 (fun r31_1 H9 => ∃ (a31_1 : Option Addr) (len31_1 cap31_1 : Nat), r31_1 = (Value.slice a31_1 len31_1 cap31_1) ∧ ∃ (I11 : List Value → Heap →
    Prop) (m11 : List Value → Heap → Nat), ((∃ l : List UInt8, (Value.string ⟨⟨larg0⟩⟩) = Value.string ⟨⟨l⟩⟩) ∧ (∃ n : Int, (Value.int .i64 (0 : Int)) = Value.int .i64 n) ∧ I11 [(Value.string
    ⟨⟨larg0⟩⟩), (Value.int .i64 (0 : Int))] H9) ∧ (∀ (l0_1 : List UInt8) (n10_1 : Int), ∀ H10, I11 [(Value.string ⟨⟨l0_1⟩⟩), (Value.int .i64 n10_1)] H10 → (((decide (n10_1 < (IntKind.wrap .i64 ((if
    (IntKind.wrap .i64 (((List.length larg0 : Nat) : Int) + (1 : Int))) < narg3 then (IntKind.wrap .i64 (((List.length larg0 : Nat) : Int) + (1 : Int))) else narg3) - (1 : Int))))) = true → CallsH
    Tryd.prog 84 ⟨[(Value.string ⟨⟨l0_1⟩⟩), (Value.string ⟨⟨larg1⟩⟩)]⟩ H10 (fun r39_1 H11 => ∃ (n39_1 : Int), r39_1 = (Value.int .i64 n39_1) ∧ (((decide (n39_1 < (0 : Int))) = true → ∃ ad61_2, (a31_1
    = some ad61_2 ∧ 0 ≤ n10_1 ∧ n10_1 < ((len31_1 : Nat) : Int)) ∧ ∃ H12, wr1 H11 (Addr.add ad61_2 (Int.toNat n10_1 * 1)) (Value.string ⟨⟨l0_1⟩⟩) = some H12 ∧ (0 ≤ (IntKind.wrap .i64 (n10_1 + (1 :
    Int))) ∧ (IntKind.wrap .i64 (n10_1 + (1 : Int))) ≤ ((cap31_1 : Nat) : Int)) ∧ R (Value.slice (if cap31_1 = 0 then a31_1 else Option.map (fun z => Addr.add z (0 * 1)) a31_1) ((Int.toNat
    (IntKind.wrap .i64 (n10_1 + (1 : Int)))) - 0) (cap31_1 - 0)) H12) ∧ ((decide (n39_1 < (0 : Int))) = false → (0 ≤ (IntKind.wrap .i64 (n39_1 + narg2)) ∧ (IntKind.wrap .i64 (n39_1 + narg2)) ≤
    ((List.length l0_1 : Nat) : Int)) ∧ ∃ ad49_1, (a31_1 = some ad49_1 ∧ 0 ≤ n10_1 ∧ n10_1 < ((len31_1 : Nat) : Int)) ∧ ∃ H13, wr1 H11 (Addr.add ad49_1 (Int.toNat n10_1 * 1)) (Value.string ⟨⟨List.take
    ((Int.toNat (IntKind.wrap .i64 (n39_1 + narg2))) - 0) (List.drop 0 l0_1)⟩⟩) = some H13 ∧ (0 ≤ (IntKind.wrap .i64 (n39_1 + ((List.length larg1 : Nat) : Int))) ∧ (IntKind.wrap .i64 (n39_1 +
    ((List.length larg1 : Nat) : Int))) ≤ ((List.length l0_1 : Nat) : Int)) ∧ (∃ l : List UInt8, (Value.string ⟨⟨List.take ((List.length l0_1) - (Int.toNat (IntKind.wrap .i64 (n39_1 + ((List.length
    larg1 : Nat) : Int))))) (List.drop (Int.toNat (IntKind.wrap .i64 (n39_1 + ((List.length larg1 : Nat) : Int)))) l0_1)⟩⟩) = Value.string ⟨⟨l⟩⟩) ∧ (∃ n : Int, (Value.int .i64 (IntKind.wrap .i64
    (n10_1 + (1 : Int)))) = Value.int .i64 n) ∧ I11 [(Value.string ⟨⟨List.take ((List.length l0_1) - (Int.toNat (IntKind.wrap .i64 (n39_1 + ((List.length larg1 : Nat) : Int))))) (List.drop (Int.toNat
    (IntKind.wrap .i64 (n39_1 + ((List.length larg1 : Nat) : Int)))) l0_1)⟩⟩), (Value.int .i64 (IntKind.wrap .i64 (n10_1 + (1 : Int))))] H13 ∧ m11 [(Value.string ⟨⟨List.take ((List.length l0_1) -
    (Int.toNat (IntKind.wrap .i64 (n39_1 + ((List.length larg1 : Nat) : Int))))) (List.drop (Int.toNat (IntKind.wrap .i64 (n39_1 + ((List.length larg1 : Nat) : Int)))) l0_1)⟩⟩), (Value.int .i64
    (IntKind.wrap .i64 (n10_1 + (1 : Int))))] H13 < m11 [(Value.string ⟨⟨l0_1⟩⟩), (Value.int .i64 n10_1)] H10)))) ∧ ((decide (n10_1 < (IntKind.wrap .i64 ((if (IntKind.wrap .i64 (((List.length larg0 :
    Nat) : Int) + (1 : Int))) < narg3 then (IntKind.wrap .i64 (((List.length larg0 : Nat) : Int) + (1 : Int))) else narg3) - (1 : Int))))) = false → ∃ ad61_3, (a31_1 = some ad61_3 ∧ 0 ≤ n10_1 ∧ n10_1
    < ((len31_1 : Nat) : Int)) ∧ ∃ H14, wr1 H10 (Addr.add ad61_3 (Int.toNat n10_1 * 1)) (Value.string ⟨⟨l0_1⟩⟩) = some H14 ∧ (0 ≤ (IntKind.wrap .i64 (n10_1 + (1 : Int))) ∧ (IntKind.wrap .i64 (n10_1 +
    (1 : Int))) ≤ ((cap31_1 : Nat) : Int)) ∧ R (Value.slice (if cap31_1 = 0 then a31_1 else Option.map (fun z => Addr.add z (0 * 1)) a31_1) ((Int.toNat (IntKind.wrap .i64 (n10_1 + (1 : Int)))) - 0)
    (cap31_1 - 0)) H14))))))))))
theorem strings_genSplit.eq (larg0 : List UInt8) (larg1 : List UInt8) (narg2 : Int) (narg3 : Int) (R : Value → Heap → Prop) (H0 : Heap) : funcVC Tryd.prog tab fns [] [(11, [(0, 9), (10, 3)])] Tryd.f68 [(Value.string ⟨⟨larg0⟩⟩), (Value.string ⟨⟨larg1⟩⟩), (Value.int .i64 narg2), (Value.int .i64 narg3)] R H0 = strings_genSplit.vc larg0 larg1 narg2 narg3 R H0 := by kernel_rfl
theorem strings_genSplit.ok {larg0 : List UInt8} {larg1 : List UInt8} {narg2 : Int} {narg3 : Int} {R : Value → Heap → Prop} {H0 : Heap} (h : strings_genSplit.vc larg0 larg1 narg2 narg3 R H0) : CallsH Tryd.prog 68 ⟨[(Value.string ⟨⟨larg0⟩⟩), (Value.string ⟨⟨larg1⟩⟩), (Value.int .i64 narg2), (Value.int .i64 narg3)]⟩ H0 R :=
  funcVC_sound tab_ok fns_ok mixed_ok Tryd.func68 (cast (strings_genSplit.eq larg0 larg1 narg2 narg3 R H0).symm h)

/-- caravan/caravanref02.last -/
def caravanref02_last.vc (larg0 : List UInt8) (R : Value → Heap → Prop) (H0 : Heap) : Prop :=
  CallsH Tryd.prog 61 ⟨[(Value.string ⟨⟨larg0⟩⟩)]⟩ H0 (fun r5 H1 => ∃ (a5 : Option Addr) (len5 cap5 : Nat), r5 = (Value.slice a5 len5 cap5) ∧ ∃ ad10, (a5 = some ad10 ∧ 0 ≤ (IntKind.wrap .i64 (((len5 :
    Nat) : Int) - (1 : Int))) ∧ (IntKind.wrap .i64 (((len5 : Nat) : Int) - (1 : Int))) < ((len5 : Nat) : Int)) ∧ ∃ (l11 : List UInt8), cellAt H1 (Addr.add ad10 (Int.toNat (IntKind.wrap .i64 (((len5 :
    Nat) : Int) - (1 : Int))) * 1)) = some (Value.string ⟨⟨l11⟩⟩) ∧ R (Value.string ⟨⟨l11⟩⟩) H1)
theorem caravanref02_last.eq (larg0 : List UInt8) (R : Value → Heap → Prop) (H0 : Heap) : funcVC Tryd.prog tab fns [] [] Tryd.f79 [(Value.string ⟨⟨larg0⟩⟩)] R H0 = caravanref02_last.vc larg0 R H0 := by kernel_rfl
theorem caravanref02_last.ok {larg0 : List UInt8} {R : Value → Heap → Prop} {H0 : Heap} (h : caravanref02_last.vc larg0 R H0) : CallsH Tryd.prog 79 ⟨[(Value.string ⟨⟨larg0⟩⟩)]⟩ H0 R :=
  funcVC_sound tab_ok fns_ok mixed_ok Tryd.func79 (cast (caravanref02_last.eq larg0 R H0).symm h)

/-- caravan/caravanref06.blocks -/
def caravanref06_blocks.vc (aarg0 : Option Addr) (lenarg0 caparg0 : Nat) (aarg1 : Option Addr) (lenarg1 caparg1 : Nat) (R : Value → Heap → Prop) (H0 : Heap) : Prop :=
  (((((lenarg0 : Nat) : Int) == ((lenarg1 : Nat) : Int)) = true → CallsH Tryd.prog 90 ⟨[(Value.slice aarg0 lenarg0 caparg0), (Value.slice aarg1 lenarg1 caparg1)]⟩ H0 (fun r13 H1 => ∃ (n13 : Int), r13 =
    (Value.int .i64 n13) ∧ R (Value.bool (n13 == (0 : Int))) H1)) ∧ ((((lenarg0 : Nat) : Int) == ((lenarg1 : Nat) : Int)) = false → R (Value.bool false) H0))
theorem caravanref06_blocks.eq (aarg0 : Option Addr) (lenarg0 caparg0 : Nat) (aarg1 : Option Addr) (lenarg1 caparg1 : Nat) (R : Value → Heap → Prop) (H0 : Heap) : funcVC Tryd.prog tab fns [] [] Tryd.f80 [(Value.slice aarg0 lenarg0 caparg0), (Value.slice aarg1 lenarg1 caparg1)] R H0 = caravanref06_blocks.vc aarg0 lenarg0 caparg0 aarg1 lenarg1 caparg1 R H0 := by kernel_rfl
theorem caravanref06_blocks.ok {aarg0 : Option Addr} {lenarg0 caparg0 : Nat} {aarg1 : Option Addr} {lenarg1 caparg1 : Nat} {R : Value → Heap → Prop} {H0 : Heap} (h : caravanref06_blocks.vc aarg0 lenarg0 caparg0 aarg1 lenarg1 caparg1 R H0) : CallsH Tryd.prog 80 ⟨[(Value.slice aarg0 lenarg0 caparg0), (Value.slice aarg1 lenarg1 caparg1)]⟩ H0 R :=
  funcVC_sound tab_ok fns_ok mixed_ok Tryd.func80 (cast (caravanref06_blocks.eq aarg0 lenarg0 caparg0 aarg1 lenarg1 caparg1 R H0).symm h)

/-- internal/bytealg.LastIndexByteString -/
def internal_bytealg_LastIndexByteString.vc (larg0 : List UInt8) (narg1 : Int) (R : Value → Heap → Prop) (H0 : Heap) : Prop :=
  ∃ (I2 : List Value → Heap → Prop) (m2 : List Value → Heap → Nat), ((∃ n : Int, (Value.int .i64 (IntKind.wrap .i64 (((List.length larg0 : Nat) : Int) - (1 : Int)))) = Value.int .i64 n) ∧ I2 [(Value.int
    .i64 (IntKind.wrap .i64 (((List.length larg0 : Nat) : Int) - (1 : Int))))] H0) ∧ (∀ (n5 : Int), ∀ H1, I2 [(Value.int .i64 n5)] H1 → (((decide (n5 ≥ (0 : Int))) = true → ∃ c15 : UInt8, (0 ≤ n5 ∧
    larg0[Int.toNat n5]? = some c15) ∧ (((((UInt8.toNat c15 : Nat) : Int) == narg1) = true → R (Value.int .i64 n5) H1) ∧ ((((UInt8.toNat c15 : Nat) : Int) == narg1) = false → (∃ n : Int, (Value.int
    .i64 (IntKind.wrap .i64 (n5 - (1 : Int)))) = Value.int .i64 n) ∧ I2 [(Value.int .i64 (IntKind.wrap .i64 (n5 - (1 : Int))))] H1 ∧ m2 [(Value.int .i64 (IntKind.wrap .i64 (n5 - (1 : Int))))] H1 < m2
    [(Value.int .i64 n5)] H1))) ∧ ((decide (n5 ≥ (0 : Int))) = false → R (Value.int .i64 (-1 : Int)) H1)))
theorem internal_bytealg_LastIndexByteString.eq (larg0 : List UInt8) (narg1 : Int) (R : Value → Heap → Prop) (H0 : Heap) : funcVC Tryd.prog tab fns [] [(2, [(5, 3)])] Tryd.f81 [(Value.string ⟨⟨larg0⟩⟩), (Value.int .u8 narg1)] R H0 = internal_bytealg_LastIndexByteString.vc larg0 narg1 R H0 := by kernel_rfl
theorem internal_bytealg_LastIndexByteString.ok {larg0 : List UInt8} {narg1 : Int} {R : Value → Heap → Prop} {H0 : Heap} (h : internal_bytealg_LastIndexByteString.vc larg0 narg1 R H0) : CallsH Tryd.prog 81 ⟨[(Value.string ⟨⟨larg0⟩⟩), (Value.int .u8 narg1)]⟩ H0 R :=
  funcVC_sound tab_ok fns_ok mixed_ok Tryd.func81 (cast (internal_bytealg_LastIndexByteString.eq larg0 narg1 R H0).symm h)

/-- strings.Count -/
def strings_Count.vc (larg0 : List UInt8) (larg1 : List UInt8) (R : Value → Heap → Prop) (H0 : Heap) : Prop :=
  (((((List.length larg1 : Nat) : Int) == (0 : Int)) = true → CallsH Tryd.prog 91 ⟨[(Value.string ⟨⟨larg0⟩⟩)]⟩ H0 (fun r11 H1 => ∃ (n11 : Int), r11 = (Value.int .i64 n11) ∧ R (Value.int .i64
    (IntKind.wrap .i64 (n11 + (1 : Int)))) H1)) ∧ ((((List.length larg1 : Nat) : Int) == (0 : Int)) = false → (((((List.length larg1 : Nat) : Int) == (1 : Int)) = true → ∃ c18 : UInt8, (0 ≤ (0 : Int)
    ∧ larg1[Int.toNat (0 : Int)]? = some c18) ∧ SemX Tryd.prog 93 ⟨[(Value.string ⟨⟨larg0⟩⟩), (Value.int .u8 ((UInt8.toNat c18 : Nat) : Int))]⟩ H0 (fun r19 H2 => ∃ (n19 : Int), r19 = (Value.int .i64
    n19) ∧ R (Value.int .i64 n19) H2)) ∧ ((((List.length larg1 : Nat) : Int) == (1 : Int)) = false → ∃ (I6 : List Value → Heap → Prop) (m6 : List Value → Heap → Nat), ((∃ l : List UInt8, (Value.string
    ⟨⟨larg0⟩⟩) = Value.string ⟨⟨l⟩⟩) ∧ (∃ n : Int, (Value.int .i64 (0 : Int)) = Value.int .i64 n) ∧ I6 [(Value.string ⟨⟨larg0⟩⟩), (Value.int .i64 (0 : Int))] H0) ∧ (∀ (l0 : List UInt8) (n5 : Int), ∀
    H3, I6 [(Value.string ⟨⟨l0⟩⟩), (Value.int .i64 n5)] H3 → CallsH Tryd.prog 84 ⟨[(Value.string ⟨⟨l0⟩⟩), (Value.string ⟨⟨larg1⟩⟩)]⟩ H3 (fun r22 H4 => ∃ (n22 : Int), r22 = (Value.int .i64 n22) ∧
    (((n22 == (-1 : Int)) = true → R (Value.int .i64 n5) H4) ∧ ((n22 == (-1 : Int)) = false → (0 ≤ (IntKind.wrap .i64 (n22 + ((List.length larg1 : Nat) : Int))) ∧ (IntKind.wrap .i64 (n22 +
    ((List.length larg1 : Nat) : Int))) ≤ ((List.length l0 : Nat) : Int)) ∧ (∃ l : List UInt8, (Value.string ⟨⟨List.take ((List.length l0) - (Int.toNat (IntKind.wrap .i64 (n22 + ((List.length larg1 :
    Nat) : Int))))) (List.drop (Int.toNat (IntKind.wrap .i64 (n22 + ((List.length larg1 : Nat) : Int)))) l0)⟩⟩) = Value.string ⟨⟨l⟩⟩) ∧ (∃ n : Int, (Value.int .i64 (IntKind.wrap .i64 (n5 + (1 :
    Int)))) = Value.int .i64 n) ∧ I6 [(Value.string ⟨⟨List.take ((List.length l0) - (Int.toNat (IntKind.wrap .i64 (n22 + ((List.length larg1 : Nat) : Int))))) (List.drop (Int.toNat (IntKind.wrap .i64
    (n22 + ((List.length larg1 : Nat) : Int)))) l0)⟩⟩), (Value.int .i64 (IntKind.wrap .i64 (n5 + (1 : Int))))] H4 ∧ m6 [(Value.string ⟨⟨List.take ((List.length l0) - (Int.toNat (IntKind.wrap .i64 (n22
    + ((List.length larg1 : Nat) : Int))))) (List.drop (Int.toNat (IntKind.wrap .i64 (n22 + ((List.length larg1 : Nat) : Int)))) l0)⟩⟩), (Value.int .i64 (IntKind.wrap .i64 (n5 + (1 : Int))))] H4 < m6
    [(Value.string ⟨⟨l0⟩⟩), (Value.int .i64 n5)] H3))))))))
theorem strings_Count.eq (larg0 : List UInt8) (larg1 : List UInt8) (R : Value → Heap → Prop) (H0 : Heap) : funcVC Tryd.prog tab fns [] [(6, [(0, 9), (5, 3)])] Tryd.f83 [(Value.string ⟨⟨larg0⟩⟩), (Value.string ⟨⟨larg1⟩⟩)] R H0 = strings_Count.vc larg0 larg1 R H0 := by kernel_rfl
theorem strings_Count.ok {larg0 : List UInt8} {larg1 : List UInt8} {R : Value → Heap → Prop} {H0 : Heap} (h : strings_Count.vc larg0 larg1 R H0) : CallsH Tryd.prog 83 ⟨[(Value.string ⟨⟨larg0⟩⟩), (Value.string ⟨⟨larg1⟩⟩)]⟩ H0 R :=
  funcVC_sound tab_ok fns_ok mixed_ok Tryd.func83 (cast (strings_Count.eq larg0 larg1 R H0).symm h)

/-- strings.Index -/
def strings_Index.vc (larg0 : List UInt8) (larg1 : List UInt8) (R : Value → Heap → Prop) (H0 : Heap) : Prop :=
  CallsH Tryd.prog 94 ⟨[(Value.string ⟨⟨larg0⟩⟩), (Value.string ⟨⟨larg1⟩⟩)]⟩ H0 (fun r7 H1 => ∃ (n7 : Int), r7 = (Value.int .i64 n7) ∧ R (Value.int .i64 n7) H1)
theorem strings_Index.eq (larg0 : List UInt8) (larg1 : List UInt8) (R : Value → Heap → Prop) (H0 : Heap) : funcVC Tryd.prog tab fns [] [] Tryd.f84 [(Value.string ⟨⟨larg0⟩⟩), (Value.string ⟨⟨larg1⟩⟩)] R H0 = strings_Index.vc larg0 larg1 R H0 := by kernel_rfl
theorem strings_Index.ok {larg0 : List UInt8} {larg1 : List UInt8} {R : Value → Heap → Prop} {H0 : Heap} (h : strings_Index.vc larg0 larg1 R H0) : CallsH Tryd.prog 84 ⟨[(Value.string ⟨⟨larg0⟩⟩), (Value.string ⟨⟨larg1⟩⟩)]⟩ H0 R :=
  funcVC_sound tab_ok fns_ok mixed_ok Tryd.func84 (cast (strings_Index.eq larg0 larg1 R H0).symm h)

/-- caravan/caravanref06.hashes -/
def caravanref06_hashes.vc (aarg0 : Option Addr) (lenarg0 _caparg0 : Nat) (aarg1 : Option Addr) (lenarg1 _caparg1 : Nat) (R : Value → Heap → Prop) (H0 : Heap) : Prop :=
  ∃ (I2 : List Value → Heap → Prop) (m2 : List Value → Heap → Nat), ((∃ n : Int, (Value.int .i64 (0 : Int)) = Value.int .i64 n) ∧ I2 [(Value.int .i64 (0 : Int))] H0) ∧ (∀ (n5 : Int), ∀ H1, I2
    [(Value.int .i64 n5)] H1 → (((cond (decide (n5 < ((lenarg0 : Nat) : Int))) (decide (n5 < ((lenarg1 : Nat) : Int))) false) = true → ∃ (I5 : List Value → Heap → Prop) (m5 : List Value → Heap → Nat),
    ((∃ n : Int, (Value.int .i64 (0 : Int)) = Value.int .i64 n) ∧ I5 [(Value.int .i64 (0 : Int))] H1) ∧ (∀ (n6 : Int), ∀ H2, I5 [(Value.int .i64 n6)] H2 → (((decide (n6 < (32 : Int))) = true → ∃ ad26,
    (aarg0 = some ad26 ∧ 0 ≤ n5 ∧ n5 < ((lenarg0 : Nat) : Int)) ∧ (0 ≤ n6 ∧ n6 < ((32 : Nat) : Int)) ∧ ∃ (n28 : Int), cellAt H2 (Addr.add (Addr.add ad26 (Int.toNat n5 * 32)) (Int.toNat n6 * 1)) = some
    (Value.int .u8 n28) ∧ ∃ ad32, (aarg1 = some ad32 ∧ 0 ≤ n5 ∧ n5 < ((lenarg1 : Nat) : Int)) ∧ (0 ≤ n6 ∧ n6 < ((32 : Nat) : Int)) ∧ ∃ (n34 : Int), cellAt H2 (Addr.add (Addr.add ad32 (Int.toNat n5 *
    32)) (Int.toNat n6 * 1)) = some (Value.int .u8 n34) ∧ (((n28 != n34) = true → ∃ ad39, (aarg0 = some ad39 ∧ 0 ≤ n5 ∧ n5 < ((lenarg0 : Nat) : Int)) ∧ (0 ≤ n6 ∧ n6 < ((32 : Nat) : Int)) ∧ ∃ (n41 :
    Int), cellAt H2 (Addr.add (Addr.add ad39 (Int.toNat n5 * 32)) (Int.toNat n6 * 1)) = some (Value.int .u8 n41) ∧ ∃ ad46, (aarg1 = some ad46 ∧ 0 ≤ n5 ∧ n5 < ((lenarg1 : Nat) : Int)) ∧ (0 ≤ n6 ∧ n6 <
    ((32 : Nat) : Int)) ∧ ∃ (n48 : Int), cellAt H2 (Addr.add (Addr.add ad46 (Int.toNat n5 * 32)) (Int.toNat n6 * 1)) = some (Value.int .u8 n48) ∧ CallsH Tryd.prog 96 ⟨[(Value.int .u64 (IntKind.wrap
    .u64 n41)), (Value.int .u64 (IntKind.wrap .u64 n48))]⟩ H2 (fun r50 H3 => ∃ (n50 : Int), r50 = (Value.int .i64 n50) ∧ Ext H2 H3 ∧ R (Value.int .i64 n50) H3)) ∧ ((n28 != n34) = false → (∃ n : Int,
    (Value.int .i64 (IntKind.wrap .i64 (n6 + (1 : Int)))) = Value.int .i64 n) ∧ I5 [(Value.int .i64 (IntKind.wrap .i64 (n6 + (1 : Int))))] H2 ∧ m5 [(Value.int .i64 (IntKind.wrap .i64 (n6 + (1 :
    Int))))] H2 < m5 [(Value.int .i64 n6)] H2))) ∧ ((decide (n6 < (32 : Int))) = false → (∃ n : Int, (Value.int .i64 (IntKind.wrap .i64 (n5 + (1 : Int)))) = Value.int .i64 n) ∧ I2 [(Value.int .i64
    (IntKind.wrap .i64 (n5 + (1 : Int))))] H2 ∧ m2 [(Value.int .i64 (IntKind.wrap .i64 (n5 + (1 : Int))))] H2 < m2 [(Value.int .i64 n5)] H1)))) ∧ ((cond (decide (n5 < ((lenarg0 : Nat) : Int))) (decide
    (n5 < ((lenarg1 : Nat) : Int))) false) = false → R (Value.int .i64 (0 : Int)) H1)))
theorem caravanref06_hashes.eq (aarg0 : Option Addr) (lenarg0 caparg0 : Nat) (aarg1 : Option Addr) (lenarg1 caparg1 : Nat) (R : Value → Heap → Prop) (H0 : Heap) : funcVC Tryd.prog tab fns [] [(2, [(5, 3)]), (5, [(6, 3)])] Tryd.f90 [(Value.slice aarg0 lenarg0 caparg0), (Value.slice aarg1 lenarg1 caparg1)] R H0 = caravanref06_hashes.vc aarg0 lenarg0 caparg0 aarg1 lenarg1 caparg1 R H0 := by kernel_rfl
theorem caravanref06_hashes.ok {aarg0 : Option Addr} {lenarg0 caparg0 : Nat} {aarg1 : Option Addr} {lenarg1 caparg1 : Nat} {R : Value → Heap → Prop} {H0 : Heap} (h : caravanref06_hashes.vc aarg0 lenarg0 caparg0 aarg1 lenarg1 caparg1 R H0) : CallsH Tryd.prog 90 ⟨[(Value.slice aarg0 lenarg0 caparg0), (Value.slice aarg1 lenarg1 caparg1)]⟩ H0 R :=
  funcVC_sound tab_ok fns_ok mixed_ok Tryd.func90 (cast (caravanref06_hashes.eq aarg0 lenarg0 caparg0 aarg1 lenarg1 caparg1 R H0).symm h)

/-- internal/stringslite.Index -/
def internal_stringslite_Index.vc (larg0 : List UInt8) (larg1 : List UInt8) (R : Value → Heap → Prop) (H0 : Heap) : Prop :=
  (((cond (((List.length larg1 : Nat) : Int) == (0 : Int)) true (larg1 == larg0)) = true → R (Value.int .i64 (0 : Int)) H0) ∧ ((cond (((List.length larg1 : Nat) : Int) == (0 : Int)) true (larg1 ==
    larg0)) = false → (((((List.length larg1 : Nat) : Int) == (1 : Int)) = true → ∃ c29 : UInt8, (0 ≤ (0 : Int) ∧ larg1[Int.toNat (0 : Int)]? = some c29) ∧ CallsH Tryd.prog 98 ⟨[(Value.string
    ⟨⟨larg0⟩⟩), (Value.int .u8 ((UInt8.toNat c29 : Nat) : Int))]⟩ H0 (fun r30 H1 => ∃ (n30 : Int), r30 = (Value.int .i64 n30) ∧ R (Value.int .i64 n30) H1)) ∧ ((((List.length larg1 : Nat) : Int) == (1
    : Int)) = false → (((decide (((List.length larg1 : Nat) : Int) ≥ ((List.length larg0 : Nat) : Int))) = true → R (Value.int .i64 (-1 : Int)) H0) ∧ ((decide (((List.length larg1 : Nat) : Int) ≥
    ((List.length larg0 : Nat) : Int))) = false → ∃ (n38 : Int), cellAt H0 ⟨0, 0, none⟩ = some (Value.int .i64 n38) ∧ (((cond (decide (((List.length larg1 : Nat) : Int) ≤ n38)) (decide (((List.length
    larg0 : Nat) : Int) ≤ (64 : Int))) false) = true → SemX Tryd.prog 99 ⟨[(Value.string ⟨⟨larg0⟩⟩), (Value.string ⟨⟨larg1⟩⟩)]⟩ H0 (fun r47 H2 => ∃ (n47 : Int), r47 = (Value.int .i64 n47) ∧ R
    (Value.int .i64 n47) H2)) ∧ ((cond (decide (((List.length larg1 : Nat) : Int) ≤ n38)) (decide (((List.length larg0 : Nat) : Int) ≤ (64 : Int))) false) = false → ∃ c49 : UInt8, (0 ≤ (0 : Int) ∧
    larg1[Int.toNat (0 : Int)]? = some c49) ∧ ∃ c51 : UInt8, (0 ≤ (1 : Int) ∧ larg1[Int.toNat (1 : Int)]? = some c51) ∧ ∃ (I15 : List Value → Heap → Prop) (m15 : List Value → Heap → Nat), ((∃ n : Int,
    (Value.int .i64 (0 : Int)) = Value.int .i64 n) ∧ (∃ n : Int, (Value.int .i64 (0 : Int)) = Value.int .i64 n) ∧ I15 [(Value.int .i64 (0 : Int)), (Value.int .i64 (0 : Int))] H0) ∧ (∀ (n8 : Int) (n10
    : Int), ∀ H3, I15 [(Value.int .i64 n8), (Value.int .i64 n10)] H3 → (((decide (n8 < (IntKind.wrap .i64 ((IntKind.wrap .i64 (((List.length larg0 : Nat) : Int) - ((List.length larg1 : Nat) : Int))) +
    (1 : Int))))) = true → ∃ c62 : UInt8, (0 ≤ n8 ∧ larg0[Int.toNat n8]? = some c62) ∧ (((((UInt8.toNat c62 : Nat) : Int) != ((UInt8.toNat c49 : Nat) : Int)) = true → (0 ≤ (IntKind.wrap .i64
    ((IntKind.wrap .i64 (((List.length larg0 : Nat) : Int) - ((List.length larg1 : Nat) : Int))) + (1 : Int))) ∧ (IntKind.wrap .i64 ((IntKind.wrap .i64 (((List.length larg0 : Nat) : Int) -
    ((List.length larg1 : Nat) : Int))) + (1 : Int))) ≤ ((List.length larg0 : Nat) : Int)) ∧ (0 ≤ (IntKind.wrap .i64 (n8 + (1 : Int))) ∧ (IntKind.wrap .i64 (n8 + (1 : Int))) ≤ ((Int.toNat
    (IntKind.wrap .i64 ((IntKind.wrap .i64 (((List.length larg0 : Nat) : Int) - ((List.length larg1 : Nat) : Int))) + (1 : Int))) : Nat) : Int)) ∧ CallsH Tryd.prog 98 ⟨[(Value.string ⟨⟨List.take
    ((Int.toNat (IntKind.wrap .i64 ((IntKind.wrap .i64 (((List.length larg0 : Nat) : Int) - ((List.length larg1 : Nat) : Int))) + (1 : Int)))) - (Int.toNat (IntKind.wrap .i64 (n8 + (1 : Int)))))
    (List.drop (Int.toNat (IntKind.wrap .i64 (n8 + (1 : Int)))) larg0)⟩⟩), (Value.int .u8 ((UInt8.toNat c49 : Nat) : Int))]⟩ H3 (fun r71 H4 => ∃ (n71 : Int), r71 = (Value.int .i64 n71) ∧ (((decide
    (n71 < (0 : Int))) = true → R (Value.int .i64 (-1 : Int)) H4) ∧ ((decide (n71 < (0 : Int))) = false → ∃ c81 : UInt8, (0 ≤ (IntKind.wrap .i64 ((IntKind.wrap .i64 (n8 + (IntKind.wrap .i64 (n71 + (1
    : Int))))) + (1 : Int))) ∧ larg0[Int.toNat (IntKind.wrap .i64 ((IntKind.wrap .i64 (n8 + (IntKind.wrap .i64 (n71 + (1 : Int))))) + (1 : Int)))]? = some c81) ∧ ((((UInt8.toNat c81 : Nat) : Int) ==
    ((UInt8.toNat c51 : Nat) : Int)) = true → (0 ≤ (IntKind.wrap .i64 ((IntKind.wrap .i64 (n8 + (IntKind.wrap .i64 (n71 + (1 : Int))))) + ((List.length larg1 : Nat) : Int))) ∧ (IntKind.wrap .i64
    ((IntKind.wrap .i64 (n8 + (IntKind.wrap .i64 (n71 + (1 : Int))))) + ((List.length larg1 : Nat) : Int))) ≤ ((List.length larg0 : Nat) : Int))) ∧ ((((UInt8.toNat c81 : Nat) : Int) == ((UInt8.toNat
    c51 : Nat) : Int)) = true → (0 ≤ (IntKind.wrap .i64 (n8 + (IntKind.wrap .i64 (n71 + (1 : Int))))) ∧ (IntKind.wrap .i64 (n8 + (IntKind.wrap .i64 (n71 + (1 : Int))))) ≤ ((Int.toNat (IntKind.wrap
    .i64 ((IntKind.wrap .i64 (n8 + (IntKind.wrap .i64 (n71 + (1 : Int))))) + ((List.length larg1 : Nat) : Int))) : Nat) : Int))) ∧ (((cond (((UInt8.toNat c81 : Nat) : Int) == ((UInt8.toNat c51 : Nat)
    : Int)) ((List.take ((Int.toNat (IntKind.wrap .i64 ((IntKind.wrap .i64 (n8 + (IntKind.wrap .i64 (n71 + (1 : Int))))) + ((List.length larg1 : Nat) : Int)))) - (Int.toNat (IntKind.wrap .i64 (n8 +
    (IntKind.wrap .i64 (n71 + (1 : Int))))))) (List.drop (Int.toNat (IntKind.wrap .i64 (n8 + (IntKind.wrap .i64 (n71 + (1 : Int)))))) larg0)) == larg1) false) = true → R (Value.int .i64 (IntKind.wrap
    .i64 (n8 + (IntKind.wrap .i64 (n71 + (1 : Int)))))) H4) ∧ ((cond (((UInt8.toNat c81 : Nat) : Int) == ((UInt8.toNat c51 : Nat) : Int)) ((List.take ((Int.toNat (IntKind.wrap .i64 ((IntKind.wrap .i64
    (n8 + (IntKind.wrap .i64 (n71 + (1 : Int))))) + ((List.length larg1 : Nat) : Int)))) - (Int.toNat (IntKind.wrap .i64 (n8 + (IntKind.wrap .i64 (n71 + (1 : Int))))))) (List.drop (Int.toNat
    (IntKind.wrap .i64 (n8 + (IntKind.wrap .i64 (n71 + (1 : Int)))))) larg0)) == larg1) false) = false → ∃ (n100 : Int), cellAt H4 ⟨0, 0, none⟩ = some (Value.int .i64 n100) ∧ (((decide (((List.length
    larg1 : Nat) : Int) ≤ n100)) = true → CallsH Tryd.prog 100 ⟨[(Value.int .i64 (IntKind.wrap .i64 ((IntKind.wrap .i64 (n8 + (IntKind.wrap .i64 (n71 + (1 : Int))))) + (1 : Int))))]⟩ H4 (fun r105 H5
    => ∃ (n105 : Int), r105 = (Value.int .i64 n105) ∧ (((decide ((IntKind.wrap .i64 (n10 + (1 : Int))) > n105)) = true → (0 ≤ (IntKind.wrap .i64 ((IntKind.wrap .i64 (n8 + (IntKind.wrap .i64 (n71 + (1
    : Int))))) + (1 : Int))) ∧ (IntKind.wrap .i64 ((IntKind.wrap .i64 (n8 + (IntKind.wrap .i64 (n71 + (1 : Int))))) + (1 : Int))) ≤ ((List.length larg0 : Nat) : Int)) ∧ SemX Tryd.prog 99
    ⟨[(Value.string ⟨⟨List.take ((List.length larg0) - (Int.toNat (IntKind.wrap .i64 ((IntKind.wrap .i64 (n8 + (IntKind.wrap .i64 (n71 + (1 : Int))))) + (1 : Int))))) (List.drop (Int.toNat
    (IntKind.wrap .i64 ((IntKind.wrap .i64 (n8 + (IntKind.wrap .i64 (n71 + (1 : Int))))) + (1 : Int)))) larg0)⟩⟩), (Value.string ⟨⟨larg1⟩⟩)]⟩ H5 (fun r112 H6 => ∃ (n112 : Int), r112 = (Value.int .i64
    n112) ∧ (((decide (n112 ≥ (0 : Int))) = true → R (Value.int .i64 (IntKind.wrap .i64 (n112 + (IntKind.wrap .i64 ((IntKind.wrap .i64 (n8 + (IntKind.wrap .i64 (n71 + (1 : Int))))) + (1 : Int))))))
    H6) ∧ ((decide (n112 ≥ (0 : Int))) = false → R (Value.int .i64 (-1 : Int)) H6)))) ∧ ((decide ((IntKind.wrap .i64 (n10 + (1 : Int))) > n105)) = false → ∃ (n119 : Int), cellAt H5 ⟨0, 0, none⟩ = some
    (Value.int .i64 n119) ∧ ((decide (((List.length larg1 : Nat) : Int) > n119)) = true → 0 ≤ (4 : Int)) ∧ (((cond (cond (decide (((List.length larg1 : Nat) : Int) > n119)) (decide ((IntKind.wrap .i64
    (n10 + (1 : Int))) ≥ (IntKind.wrap .i64 ((4 : Int) + (Int.fdiv (IntKind.wrap .i64 ((IntKind.wrap .i64 (n8 + (IntKind.wrap .i64 (n71 + (1 : Int))))) + (1 : Int))) (2 ^ (min (Int.toNat (4 : Int))
    64))))))) false) (decide ((IntKind.wrap .i64 ((IntKind.wrap .i64 (n8 + (IntKind.wrap .i64 (n71 + (1 : Int))))) + (1 : Int))) < (IntKind.wrap .i64 ((IntKind.wrap .i64 (((List.length larg0 : Nat) :
    Int) - ((List.length larg1 : Nat) : Int))) + (1 : Int))))) false) = true → (0 ≤ (IntKind.wrap .i64 ((IntKind.wrap .i64 (n8 + (IntKind.wrap .i64 (n71 + (1 : Int))))) + (1 : Int))) ∧ (IntKind.wrap
    .i64 ((IntKind.wrap .i64 (n8 + (IntKind.wrap .i64 (n71 + (1 : Int))))) + (1 : Int))) ≤ ((List.length larg0 : Nat) : Int)) ∧ CallsH Tryd.prog 101 ⟨[(Value.string ⟨⟨List.take ((List.length larg0) -
    (Int.toNat (IntKind.wrap .i64 ((IntKind.wrap .i64 (n8 + (IntKind.wrap .i64 (n71 + (1 : Int))))) + (1 : Int))))) (List.drop (Int.toNat (IntKind.wrap .i64 ((IntKind.wrap .i64 (n8 + (IntKind.wrap
    .i64 (n71 + (1 : Int))))) + (1 : Int)))) larg0)⟩⟩), (Value.string ⟨⟨larg1⟩⟩)]⟩ H5 (fun r137 H7 => ∃ (n137 : Int), r137 = (Value.int .i64 n137) ∧ (((decide (n137 < (0 : Int))) = true → R (Value.int
    .i64 (-1 : Int)) H7) ∧ ((decide (n137 < (0 : Int))) = false → R (Value.int .i64 (IntKind.wrap .i64 ((IntKind.wrap .i64 ((IntKind.wrap .i64 (n8 + (IntKind.wrap .i64 (n71 + (1 : Int))))) + (1 :
    Int))) + n137))) H7)))) ∧ ((cond (cond (decide (((List.length larg1 : Nat) : Int) > n119)) (decide ((IntKind.wrap .i64 (n10 + (1 : Int))) ≥ (IntKind.wrap .i64 ((4 : Int) + (Int.fdiv (IntKind.wrap
    .i64 ((IntKind.wrap .i64 (n8 + (IntKind.wrap .i64 (n71 + (1 : Int))))) + (1 : Int))) (2 ^ (min (Int.toNat (4 : Int)) 64))))))) false) (decide ((IntKind.wrap .i64 ((IntKind.wrap .i64 (n8 +
    (IntKind.wrap .i64 (n71 + (1 : Int))))) + (1 : Int))) < (IntKind.wrap .i64 ((IntKind.wrap .i64 (((List.length larg0 : Nat) : Int) - ((List.length larg1 : Nat) : Int))) + (1 : Int))))) false) =
    false → (∃ n : Int, (Value.int .i64 (IntKind.wrap .i64 ((IntKind.wrap .i64 (n8 + (IntKind.wrap .i64 (n71 + (1 : Int))))) + (1 : Int)))) = Value.int .i64 n) ∧ (∃ n : Int, (Value.int .i64
    (IntKind.wrap .i64 (n10 + (1 : Int)))) = Value.int .i64 n) ∧ I15 [(Value.int .i64 (IntKind.wrap .i64 ((IntKind.wrap .i64 (n8 + (IntKind.wrap .i64 (n71 + (1 : Int))))) + (1 : Int)))), (Value.int
    .i64 (IntKind.wrap .i64 (n10 + (1 : Int))))] H5 ∧ m15 [(Value.int .i64 (IntKind.wrap .i64 ((IntKind.wrap .i64 (n8 + (IntKind.wrap .i64 (n71 + (1 : Int))))) + (1 : Int)))), (Value.int .i64
    (IntKind.wrap .i64 (n10 + (1 : Int))))] H5 < m15 [(Value.int .i64 n8), (Value.int .i64 n10)] H3)))))) ∧ ((decide (((List.length larg1 : Nat) : Int) ≤ n100)) = false → ∃ (n119_1 : Int), cellAt H4
    ⟨0, 0, none⟩ = some (Value.int .i64 n119_1) ∧ ((decide (((List.length larg1 : Nat) : Int) > n119_1)) = true → 0 ≤ (4 : Int)) ∧ (((cond (cond (decide (((List.length larg1 : Nat) : Int) > n119_1))
    (decide ((IntKind.wrap .i64 (n10 + (1 : Int))) ≥ (IntKind.wrap .i64 ((4 : Int) + (Int.fdiv (IntKind.wrap .i64 ((IntKind.wrap .i64 (n8 + (IntKind.wrap .i64 (n71 + (1 : Int))))) + (1 : Int))) (2 ^
    (min (Int.toNat (4 : Int)) 64))))))) false) (decide ((IntKind.wrap .i64 ((IntKind.wrap .i64 (n8 + (IntKind.wrap .i64 (n71 + (1 : Int))))) + (1 : Int))) < (IntKind.wrap .i64 ((IntKind.wrap .i64
    (((List.length larg0 : Nat) : Int) - ((List.length larg1 : Nat) : Int))) + (1 : Int))))) false) = true → (0 ≤ (IntKind.wrap .i64 ((IntKind.wrap .i64 (n8 + (IntKind.wrap .i64 (n71 + (1 : Int))))) +
    (1 : Int))) ∧ (IntKind.wrap .i64 ((IntKind.wrap .i64 (n8 + (IntKind.wrap .i64 (n71 + (1 : Int))))) + (1 : Int))) ≤ ((List.length larg0 : Nat) : Int)) ∧ CallsH Tryd.prog 101 ⟨[(Value.string
    ⟨⟨List.take ((List.length larg0) - (Int.toNat (IntKind.wrap .i64 ((IntKind.wrap .i64 (n8 + (IntKind.wrap .i64 (n71 + (1 : Int))))) + (1 : Int))))) (List.drop (Int.toNat (IntKind.wrap .i64
    ((IntKind.wrap .i64 (n8 + (IntKind.wrap .i64 (n71 + (1 : Int))))) + (1 : Int)))) larg0)⟩⟩), (Value.string ⟨⟨larg1⟩⟩)]⟩ H4 (fun r137_1 H8 => ∃ (n137_1 : Int), r137_1 = (Value.int .i64 n137_1) ∧
    (((decide (n137_1 < (0 : Int))) = true → R (Value.int .i64 (-1 : Int)) H8) ∧ ((decide (n137_1 < (0 : Int))) = false → R (Value.int .i64 (IntKind.wrap .i64 ((IntKind.wrap .i64 ((IntKind.wrap .i64
    (n8 + (IntKind.wrap .i64 (n71 + (1 : Int))))) + (1 : Int))) + n137_1))) H8)))) ∧ ((cond (cond (decide (((List.length larg1 : Nat) : Int) > n119_1)) (decide ((IntKind.wrap .i64 (n10 + (1 : Int))) ≥
    (IntKind.wrap .i64 ((4 : Int) + (Int.fdiv (IntKind.wrap .i64 ((IntKind.wrap .i64 (n8 + (IntKind.wrap .i64 (n71 + (1 : Int))))) + (1 : Int))) (2 ^ (min (Int.toNat (4 : Int)) 64))))))) false)
    (decide ((IntKind.wrap .i64 ((IntKind.wrap .i64 (n8 + (IntKind.wrap .i64 (n71 + (1 : Int))))) + (1 : Int))) < (IntKind.wrap .i64 ((IntKind.wrap .i64 (((List.length larg0 : Nat) : Int) -
    ((List.length larg1 : Nat) : Int))) + (1 : Int))))) false) = false → (∃ n : Int, (Value.int .i64 (IntKind.wrap .i64 ((IntKind.wrap .i64 (n8 + (IntKind.wrap .i64 (n71 + (1 : Int))))) + (1 : Int))))
    = Value.int .i64 n) ∧ (∃ n : Int, (Value.int .i64 (IntKind.wrap .i64 (n10 + (1 : Int)))) = Value.int .i64 n) ∧ I15 [(Value.int .i64 (IntKind.wrap .i64 ((IntKind.wrap .i64 (n8 + (IntKind.wrap .i64
    (n71 + (1 : Int))))) + (1 : Int)))), (Value.int .i64 (IntKind.wrap .i64 (n10 + (1 : Int))))] H4 ∧ m15 [(Value.int .i64 (IntKind.wrap .i64 ((IntKind.wrap .i64 (n8 + (IntKind.wrap .i64 (n71 + (1 :
    Int))))) + (1 : Int)))), (Value.int .i64 (IntKind.wrap .i64 (n10 + (1 : Int))))] H4 < m15 [(Value.int .i64 n8), (Value.int .i64 n10)] H3)))))))))) ∧ ((((UInt8.toNat c62 : Nat) : Int) !=
    ((UInt8.toNat c49 : Nat) : Int)) = false → ∃ c81_1 : UInt8, (0 ≤ (IntKind.wrap .i64 (n8 + (1 : Int))) ∧ larg0[Int.toNat (IntKind.wrap .i64 (n8 + (1 : Int)))]? = some c81_1) ∧ ((((UInt8.toNat c81_1
    : Nat) : Int) == ((UInt8.toNat c51 : Nat) : Int)) = true → (0 ≤ (IntKind.wrap .i64 (n8 + ((List.length larg1 : Nat) : Int))) ∧ (IntKind.wrap .i64 (n8 + ((List.length larg1 : Nat) : Int))) ≤
    ((List.length larg0 : Nat) : Int))) ∧ ((((UInt8.toNat c81_1 : Nat) : Int) == ((UInt8.toNat c51 : Nat) : Int)) = true → (0 ≤ n8 ∧ n8 ≤ ((Int.toNat (IntKind.wrap .i64 (n8 + ((List.length larg1 :
    Nat) : Int))) : Nat) : Int))) ∧ (((cond (((UInt8.toNat c81_1 : Nat) : Int) == ((UInt8.toNat c51 : Nat) : Int)) ((List.take ((Int.toNat (IntKind.wrap .i64 (n8 + ((List.length larg1 : Nat) : Int))))
    - (Int.toNat n8)) (List.drop (Int.toNat n8) larg0)) == larg1) false) = true → R (Value.int .i64 n8) H3) ∧ ((cond (((UInt8.toNat c81_1 : Nat) : Int) == ((UInt8.toNat c51 : Nat) : Int)) ((List.take
    ((Int.toNat (IntKind.wrap .i64 (n8 + ((List.length larg1 : Nat) : Int)))) - (Int.toNat n8)) (List.drop (Int.toNat n8) larg0)) == larg1) false) = false → ∃ (n100_1 : Int), cellAt H3 ⟨0, 0, none⟩ =
    some (Value.int .i64 n100_1) ∧ (((decide (((List.length larg1 : Nat) : Int) ≤ n100_1)) = true → CallsH Tryd.prog 100 ⟨[(Value.int .i64 (IntKind.wrap .i64 (n8 + (1 : Int))))]⟩ H3 (fun r105_1 H9 =>
    ∃ (n105_1 : Int), r105_1 = (Value.int .i64 n105_1) ∧ (((decide ((IntKind.wrap .i64 (n10 + (1 : Int))) > n105_1)) = true → (0 ≤ (IntKind.wrap .i64 (n8 + (1 : Int))) ∧ (IntKind.wrap .i64 (n8 + (1 :
    Int))) ≤ ((List.length larg0 : Nat) : Int)) ∧ SemX Tryd.prog 99 ⟨[(Value.string ⟨⟨List.take ((List.length larg0) - (Int.toNat (IntKind.wrap .i64 (n8 + (1 : Int))))) (List.drop (Int.toNat
    (IntKind.wrap .i64 (n8 + (1 : Int)))) larg0)⟩⟩), (Value.string ⟨⟨larg1⟩⟩)]⟩ H9 (fun r112_1 H10 => ∃ (n112_1 : Int), r112_1 = (Value.int .i64 n112_1) ∧ (((decide (n112_1 ≥ (0 : Int))) = true → R
    (Value.int .i64 (IntKind.wrap .i64 (n112_1 + (IntKind.wrap .i64 (n8 + (1 : Int)))))) H10) ∧ ((decide (n112_1 ≥ (0 : Int))) = false → R (Value.int .i64 (-1 : Int)) H10)))) ∧ ((decide ((IntKind.wrap
    .i64 (n10 + (1 : Int))) > n105_1)) = false → ∃ (n119_2 : Int), cellAt H9 ⟨0, 0, none⟩ = some (Value.int .i64 n119_2) ∧ ((decide (((List.length larg1 : Nat) : Int) > n119_2)) = true → 0 ≤ (4 :
    Int)) ∧ (((cond (cond (decide (((List.length larg1 : Nat) : Int) > n119_2)) (decide ((IntKind.wrap .i64 (n10 + (1 : Int))) ≥ (IntKind.wrap .i64 ((4 : Int) + (Int.fdiv (IntKind.wrap .i64 (n8 + (1 :
    Int))) (2 ^ (min (Int.toNat (4 : Int)) 64))))))) false) (decide ((IntKind.wrap .i64 (n8 + (1 : Int))) < (IntKind.wrap .i64 ((IntKind.wrap .i64 (((List.length larg0 : Nat) : Int) - ((List.length
    larg1 : Nat) : Int))) + (1 : Int))))) false) = true → (0 ≤ (IntKind.wrap .i64 (n8 + (1 : Int))) ∧ (IntKind.wrap .i64 (n8 + (1 : Int))) ≤ ((List.length larg0 : Nat) : Int)) ∧ CallsH Tryd.prog 101
    ⟨[(Value.string ⟨⟨List.take ((List.length larg0) - (Int.toNat (IntKind.wrap .i64 (n8 + (1 : Int))))) (List.drop (Int.toNat (IntKind.wrap .i64 (n8 + (1 : Int)))) larg0)⟩⟩), (Value.string
    ⟨⟨larg1⟩⟩)]⟩ H9 (fun r137_2 H11 => ∃ (n137_2 : Int), r137_2 = (Value.int .i64 n137_2) ∧ (((decide (n137_2 < (0 : Int))) = true → R (Value.int .i64 (-1 : Int)) H11) ∧ ((decide (n137_2 < (0 : Int)))
    = false → R (Value.int .i64 (IntKind.wrap .i64 ((IntKind.wrap .i64 (n8 + (1 : Int))) + n137_2))) H11)))) ∧ ((cond (cond (decide (((List.length larg1 : Nat) : Int) > n119_2)) (decide ((IntKind.wrap
    .i64 (n10 + (1 : Int))) ≥ (IntKind.wrap .i64 ((4 : Int) + (Int.fdiv (IntKind.wrap .i64 (n8 + (1 : Int))) (2 ^ (min (Int.toNat (4 : Int)) 64))))))) false) (decide ((IntKind.wrap .i64 (n8 + (1 :
    Int))) < (IntKind.wrap .i64 ((IntKind.wrap .i64 (((List.length larg0 : Nat) : Int) - ((List.length larg1 : Nat) : Int))) + (1 : Int))))) false) = false → (∃ n : Int, (Value.int .i64 (IntKind.wrap
    .i64 (n8 + (1 : Int)))) = Value.int .i64 n) ∧ (∃ n : Int, (Value.int .i64 (IntKind.wrap .i64 (n10 + (1 : Int)))) = Value.int .i64 n) ∧ I15 [(Value.int .i64 (IntKind.wrap .i64 (n8 + (1 : Int)))),
    (Value.int .i64 (IntKind.wrap .i64 (n10 + (1 : Int))))] H9 ∧ m15 [(Value.int .i64 (IntKind.wrap .i64 (n8 + (1 : Int)))), (Value.int .i64 (IntKind.wrap .i64 (n10 + (1 : Int))))] H9 < m15
    [(Value.int .i64 n8), (Value.int .i64 n10)] H3)))))) ∧ ((decide (((List.length larg1 : Nat) : Int) ≤ n100_1)) = false → ∃ (n119_3 : Int), cellAt H3 ⟨0, 0, none⟩ = some (Value.int .i64 n119_3) ∧
    ((decide (((List.length larg1 : Nat) : Int) > n119_3)) = true → 0 ≤ (4 : Int)) ∧ (((cond (cond (decide (((List.length larg1 : Nat) : Int) > n119_3)) (decide ((IntKind.wrap .i64 (n10 + (1 : Int)))
    ≥ (IntKind.wrap .i64 ((4 : Int) + (Int.fdiv (IntKind.wrap .i64 (n8 + (1 : Int))) (2 ^ (min (Int.toNat (4 : Int)) 64))))))) false) (decide ((IntKind.wrap .i64 (n8 + (1 : Int))) < (IntKind.wrap .i64
    ((IntKind.wrap .i64 (((List.length larg0 : Nat) : Int) - ((List.length larg1 : Nat) : Int))) + (1 : Int))))) false) = true → (0 ≤ (IntKind.wrap .i64 (n8 + (1 : Int))) ∧ (IntKind.wrap .i64 (n8 + (1
    : Int))) ≤ ((List.length larg0 : Nat) : Int)) ∧ CallsH Tryd.prog 101 ⟨[(Value.string ⟨⟨List.take ((List.length larg0) - (Int.toNat (IntKind.wrap .i64 (n8 + (1 : Int))))) (List.drop (Int.toNat
    (IntKind.wrap .i64 (n8 + (1 : Int)))) larg0)⟩⟩), (Value.string ⟨⟨larg1⟩⟩)]⟩ H3 (fun r137_3 H12 => ∃ (n137_3 : Int), r137_3 = (Value.int .i64 n137_3) ∧ (((decide (n137_3 < (0 : Int))) = true → R
    (Value.int .i64 (-1 : Int)) H12) ∧ ((decide (n137_3 < (0 : Int))) = false → R (Value.int .i64 (IntKind.wrap .i64 ((IntKind.wrap .i64 (n8 + (1 : Int))) + n137_3))) H12)))) ∧ ((cond (cond (decide
    (((List.length larg1 : Nat) : Int) > n119_3)) (decide ((IntKind.wrap .i64 (n10 + (1 : Int))) ≥ (IntKind.wrap .i64 ((4 : Int) + (Int.fdiv (IntKind.wrap .i64 (n8 + (1 : Int))) (2 ^ (min (Int.toNat
    (4 : Int)) 64))))))) false) (decide ((IntKind.wrap .i64 (n8 + (1 : Int))) < (IntKind.wrap .i64 ((IntKind.wrap .i64 (((List.length larg0 : Nat) : Int) - ((List.length larg1 : Nat) : Int))) + (1 :
    Int))))) false) = false → (∃ n : Int, (Value.int .i64 (IntKind.wrap .i64 (n8 + (1 : Int)))) = Value.int .i64 n) ∧ (∃ n : Int, (Value.int .i64 (IntKind.wrap .i64 (n10 + (1 : Int)))) = Value.int
    .i64 n) ∧ I15 [(Value.int .i64 (IntKind.wrap .i64 (n8 + (1 : Int)))), (Value.int .i64 (IntKind.wrap .i64 (n10 + (1 : Int))))] H3 ∧ m15 [(Value.int .i64 (IntKind.wrap .i64 (n8 + (1 : Int)))),
    (Value.int .i64 (IntKind.wrap .i64 (n10 + (1 : Int))))] H3 < m15 [(Value.int .i64 n8), (Value.int .i64 n10)] H3))))))))) ∧ ((decide (n8 < (IntKind.wrap .i64 ((IntKind.wrap .i64 (((List.length
    larg0 : Nat) : Int) - ((List.length larg1 : Nat) : Int))) + (1 : Int))))) = false → R (Value.int .i64 (-1 : Int)) H3)))))))))))
theorem internal_stringslite_Index.eq (larg0 : List UInt8) (larg1 : List UInt8) (R : Value → Heap → Prop) (H0 : Heap) : funcVC Tryd.prog tab fns [] [(15, [(8, 3), (10, 3)])] Tryd.f94 [(Value.string ⟨⟨larg0⟩⟩), (Value.string ⟨⟨larg1⟩⟩)] R H0 = internal_stringslite_Index.vc larg0 larg1 R H0 := by kernel_rfl
theorem internal_stringslite_Index.ok {larg0 : List UInt8} {larg1 : List UInt8} {R : Value → Heap → Prop} {H0 : Heap} (h : internal_stringslite_Index.vc larg0 larg1 R H0) : CallsH Tryd.prog 94 ⟨[(Value.string ⟨⟨larg0⟩⟩), (Value.string ⟨⟨larg1⟩⟩)]⟩ H0 R :=
  funcVC_sound tab_ok fns_ok mixed_ok Tryd.func94 (cast (internal_stringslite_Index.eq larg0 larg1 R H0).symm h)

/-- caravan/caravanref06.order -/
def caravanref06_order.vc (narg0 : Int) (narg1 : Int) (R : Value → Heap → Prop) (H0 : Heap) : Prop :=
  (((decide (narg0 < narg1)) = true → R (Value.int .i64 (-1 : Int)) H0) ∧ ((decide (narg0 < narg1)) = false → (((decide (narg0 > narg1)) = true → R (Value.int .i64 (1 : Int)) H0) ∧ ((decide (narg0 >
    narg1)) = false → R (Value.int .i64 (0 : Int)) H0))))
theorem caravanref06_order.eq (narg0 : Int) (narg1 : Int) (R : Value → Heap → Prop) (H0 : Heap) : funcVC Tryd.prog tab fns [] [] Tryd.f96 [(Value.int .u64 narg0), (Value.int .u64 narg1)] R H0 = caravanref06_order.vc narg0 narg1 R H0 := by kernel_rfl
theorem caravanref06_order.ok {narg0 : Int} {narg1 : Int} {R : Value → Heap → Prop} {H0 : Heap} (h : caravanref06_order.vc narg0 narg1 R H0) : CallsH Tryd.prog 96 ⟨[(Value.int .u64 narg0), (Value.int .u64 narg1)]⟩ H0 R :=
  funcVC_sound tab_ok fns_ok mixed_ok Tryd.func96 (cast (caravanref06_order.eq narg0 narg1 R H0).symm h)

/-- internal/stringslite.IndexByte -/
def internal_stringslite_IndexByte.vc (larg0 : List UInt8) (narg1 : Int) (R : Value → Heap → Prop) (H0 : Heap) : Prop :=
  SemX Tryd.prog 102 ⟨[(Value.string ⟨⟨larg0⟩⟩), (Value.int .u8 narg1)]⟩ H0 (fun r7 H1 => ∃ (n7 : Int), r7 = (Value.int .i64 n7) ∧ R (Value.int .i64 n7) H1)
theorem internal_stringslite_IndexByte.eq (larg0 : List UInt8) (narg1 : Int) (R : Value → Heap → Prop) (H0 : Heap) : funcVC Tryd.prog tab fns [] [] Tryd.f98 [(Value.string ⟨⟨larg0⟩⟩), (Value.int .u8 narg1)] R H0 = internal_stringslite_IndexByte.vc larg0 narg1 R H0 := by kernel_rfl
theorem internal_stringslite_IndexByte.ok {larg0 : List UInt8} {narg1 : Int} {R : Value → Heap → Prop} {H0 : Heap} (h : internal_stringslite_IndexByte.vc larg0 narg1 R H0) : CallsH Tryd.prog 98 ⟨[(Value.string ⟨⟨larg0⟩⟩), (Value.int .u8 narg1)]⟩ H0 R :=
  funcVC_sound tab_ok fns_ok mixed_ok Tryd.func98 (cast (internal_stringslite_IndexByte.eq larg0 narg1 R H0).symm h)

end Go.Proofs.YtoemipeomingaaaDoor
