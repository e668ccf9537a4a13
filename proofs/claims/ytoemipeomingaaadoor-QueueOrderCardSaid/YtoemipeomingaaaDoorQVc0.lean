/- The forms of the program's functions over the heap alone, each tied to its code by the kernel: part 1. -/
import Derived.Test.YtoemipeomingaaaDoorQVt
namespace Go.Proofs.YtoemipeomingaaaDoor
open Go Go.V
set_option maxRecDepth 100000

/-- caravan/caravanlaw20.QueueReady -/
def caravanlaw20_QueueReady.vc (aarg0 : Option Addr) (lenarg0 caparg0 : Nat) (aarg1 : Option Addr) (lenarg1 caparg1 : Nat) (R : Value → Heap → Prop) (H0 : Heap) : Prop :=
  CallsH Tryd.prog 10 ⟨[(Value.slice aarg0 lenarg0 caparg0)]⟩ H0 (fun r8 H1 => ∃ (a8 : Option Addr) (len8 cap8 : Nat), r8 = (Value.slice a8 len8 cap8) ∧ CallsH Tryd.prog 10 ⟨[(Value.slice aarg1 lenarg1
    caparg1)]⟩ H1 (fun r10 H2 => ∃ (a10 : Option Addr) (len10 cap10 : Nat), r10 = (Value.slice a10 len10 cap10) ∧ CallsH Tryd.prog 9 ⟨[(Value.slice a8 len8 cap8), (Value.slice a10 len10 cap10)]⟩ H2
    (fun r11 H3 => ∃ (a11 : Option Addr) (len11 cap11 : Nat), r11 = (Value.slice a11 len11 cap11) ∧ CallsH Tryd.prog 10 ⟨[(Value.slice aarg0 lenarg0 caparg0)]⟩ H3 (fun r13 H4 => ∃ (a13 : Option Addr)
    (len13 cap13 : Nat), r13 = (Value.slice a13 len13 cap13) ∧ CallsH Tryd.prog 10 ⟨[(Value.slice aarg1 lenarg1 caparg1)]⟩ H4 (fun r15 H5 => ∃ (a15 : Option Addr) (len15 cap15 : Nat), r15 =
    (Value.slice a15 len15 cap15) ∧ CallsH Tryd.prog 11 ⟨[(Value.slice a13 len13 cap13), (Value.slice a15 len15 cap15)]⟩ H5 (fun r16 H6 => ∃ (a16 : Option Addr) (len16 cap16 : Nat), r16 = (Value.slice
    a16 len16 cap16) ∧ CallsH Tryd.prog 12 ⟨[(Value.slice a11 len11 cap11), (Value.slice a16 len16 cap16)]⟩ H6 (fun r19 H7 => ∃ (b19 : Bool), r19 = (Value.bool b19) ∧ ((b19 = true → CallsH Tryd.prog
    13 ⟨[]⟩ H7 (fun r21 H8 => ∃ (b21 : Bool), r21 = (Value.bool b21) ∧ R (Value.bool b21) H8)) ∧ (b19 = false → R (Value.bool false) H7)))))))))
theorem caravanlaw20_QueueReady.eq (aarg0 : Option Addr) (lenarg0 caparg0 : Nat) (aarg1 : Option Addr) (lenarg1 caparg1 : Nat) (R : Value → Heap → Prop) (H0 : Heap) : funcVC Tryd.prog tab fns [] [] Tryd.f3 [(Value.slice aarg0 lenarg0 caparg0), (Value.slice aarg1 lenarg1 caparg1)] R H0 = caravanlaw20_QueueReady.vc aarg0 lenarg0 caparg0 aarg1 lenarg1 caparg1 R H0 := by kernel_rfl
theorem caravanlaw20_QueueReady.ok {aarg0 : Option Addr} {lenarg0 caparg0 : Nat} {aarg1 : Option Addr} {lenarg1 caparg1 : Nat} {R : Value → Heap → Prop} {H0 : Heap} (h : caravanlaw20_QueueReady.vc aarg0 lenarg0 caparg0 aarg1 lenarg1 caparg1 R H0) : CallsH Tryd.prog 3 ⟨[(Value.slice aarg0 lenarg0 caparg0), (Value.slice aarg1 lenarg1 caparg1)]⟩ H0 R :=
  funcVC_sound tab_ok fns_ok mixed_ok Tryd.func3 (cast (caravanlaw20_QueueReady.eq aarg0 lenarg0 caparg0 aarg1 lenarg1 caparg1 R H0).symm h)

/-- caravan/caravanlaw20.QueueBlocked -/
def caravanlaw20_QueueBlocked.vc (aarg0 : Option Addr) (lenarg0 caparg0 : Nat) (aarg1 : Option Addr) (lenarg1 caparg1 : Nat) (R : Value → Heap → Prop) (H0 : Heap) : Prop :=
  CallsH Tryd.prog 10 ⟨[(Value.slice aarg0 lenarg0 caparg0)]⟩ H0 (fun r10 H1 => ∃ (a10 : Option Addr) (len10 cap10 : Nat), r10 = (Value.slice a10 len10 cap10) ∧ CallsH Tryd.prog 10 ⟨[(Value.slice aarg1
    lenarg1 caparg1)]⟩ H1 (fun r12 H2 => ∃ (a12 : Option Addr) (len12 cap12 : Nat), r12 = (Value.slice a12 len12 cap12) ∧ CallsH Tryd.prog 14 ⟨[(Value.slice a10 len10 cap10), (Value.slice a12 len12
    cap12)]⟩ H2 (fun r13 H3 => ∃ (a13 : Option Addr) (len13 cap13 : Nat), r13 = (Value.slice a13 len13 cap13) ∧ CallsH Tryd.prog 10 ⟨[(Value.slice aarg0 lenarg0 caparg0)]⟩ H3 (fun r15 H4 => ∃ (a15 :
    Option Addr) (len15 cap15 : Nat), r15 = (Value.slice a15 len15 cap15) ∧ CallsH Tryd.prog 10 ⟨[(Value.slice aarg1 lenarg1 caparg1)]⟩ H4 (fun r17 H5 => ∃ (a17 : Option Addr) (len17 cap17 : Nat), r17
    = (Value.slice a17 len17 cap17) ∧ CallsH Tryd.prog 15 ⟨[(Value.slice a15 len15 cap15), (Value.slice a17 len17 cap17)]⟩ H5 (fun r18 H6 => ∃ (a18 : Option Addr) (len18 cap18 : Nat), r18 =
    (Value.slice a18 len18 cap18) ∧ CallsH Tryd.prog 10 ⟨[(Value.slice aarg0 lenarg0 caparg0)]⟩ H6 (fun r20 H7 => ∃ (a20 : Option Addr) (len20 cap20 : Nat), r20 = (Value.slice a20 len20 cap20) ∧
    CallsH Tryd.prog 10 ⟨[(Value.slice aarg1 lenarg1 caparg1)]⟩ H7 (fun r22 H8 => ∃ (a22 : Option Addr) (len22 cap22 : Nat), r22 = (Value.slice a22 len22 cap22) ∧ CallsH Tryd.prog 16 ⟨[(Value.slice
    a20 len20 cap20), (Value.slice a22 len22 cap22)]⟩ H8 (fun r23 H9 => ∃ (a23 : Option Addr) (len23 cap23 : Nat), r23 = (Value.slice a23 len23 cap23) ∧ CallsH Tryd.prog 10 ⟨[(Value.slice aarg0
    lenarg0 caparg0)]⟩ H9 (fun r25 H10 => ∃ (a25 : Option Addr) (len25 cap25 : Nat), r25 = (Value.slice a25 len25 cap25) ∧ CallsH Tryd.prog 10 ⟨[(Value.slice aarg1 lenarg1 caparg1)]⟩ H10 (fun r27 H11
    => ∃ (a27 : Option Addr) (len27 cap27 : Nat), r27 = (Value.slice a27 len27 cap27) ∧ CallsH Tryd.prog 17 ⟨[(Value.slice a25 len25 cap25), (Value.slice a27 len27 cap27)]⟩ H11 (fun r28 H12 => ∃ (a28
    : Option Addr) (len28 cap28 : Nat), r28 = (Value.slice a28 len28 cap28) ∧ CallsH Tryd.prog 18 ⟨[(Value.slice a13 len13 cap13), (Value.slice a18 len18 cap18)]⟩ H12 (fun r31 H13 => ∃ (b31 : Bool),
    r31 = (Value.bool b31) ∧ ((b31 = true → CallsH Tryd.prog 12 ⟨[(Value.slice a23 len23 cap23), (Value.slice a28 len28 cap28)]⟩ H13 (fun r35 H14 => ∃ (b35 : Bool), r35 = (Value.bool b35) ∧ ((b35 =
    true → CallsH Tryd.prog 13 ⟨[]⟩ H14 (fun r38 H15 => ∃ (b38 : Bool), r38 = (Value.bool b38) ∧ R (Value.bool b38) H15)) ∧ (b35 = false → R (Value.bool false) H14)))) ∧ (b31 = false → R (Value.bool
    false) H13)))))))))))))))
theorem caravanlaw20_QueueBlocked.eq (aarg0 : Option Addr) (lenarg0 caparg0 : Nat) (aarg1 : Option Addr) (lenarg1 caparg1 : Nat) (R : Value → Heap → Prop) (H0 : Heap) : funcVC Tryd.prog tab fns [] [] Tryd.f4 [(Value.slice aarg0 lenarg0 caparg0), (Value.slice aarg1 lenarg1 caparg1)] R H0 = caravanlaw20_QueueBlocked.vc aarg0 lenarg0 caparg0 aarg1 lenarg1 caparg1 R H0 := by kernel_rfl
theorem caravanlaw20_QueueBlocked.ok {aarg0 : Option Addr} {lenarg0 caparg0 : Nat} {aarg1 : Option Addr} {lenarg1 caparg1 : Nat} {R : Value → Heap → Prop} {H0 : Heap} (h : caravanlaw20_QueueBlocked.vc aarg0 lenarg0 caparg0 aarg1 lenarg1 caparg1 R H0) : CallsH Tryd.prog 4 ⟨[(Value.slice aarg0 lenarg0 caparg0), (Value.slice aarg1 lenarg1 caparg1)]⟩ H0 R :=
  funcVC_sound tab_ok fns_ok mixed_ok Tryd.func4 (cast (caravanlaw20_QueueBlocked.eq aarg0 lenarg0 caparg0 aarg1 lenarg1 caparg1 R H0).symm h)

/-- caravan/caravanlaw20.QueueKnown -/
def caravanlaw20_QueueKnown.vc  (R : Value → Heap → Prop) (H0 : Heap) : Prop :=
  CallsH Tryd.prog 19 ⟨[(Value.string ⟨⟨[97]⟩⟩)]⟩ H0 (fun r13 H1 => ∃ (cs13 : Array Value), r13 = (Value.agg cs13) ∧ CallsH Tryd.prog 20 ⟨[(Value.string ⟨⟨[97, 47, 98]⟩⟩)]⟩ H1 (fun r15 H2 => ∃ (cs15 :
    Array Value), r15 = (Value.agg cs15) ∧ SemH Tryd.prog (Instr.buildSlice 22 2 ⟨[(0, (Value.agg cs13)), (1, (Value.agg cs15))]⟩) H2 (fun r16 H3 => ∃ (a16 : Option Addr) (len16 cap16 : Nat), r16 =
    (Value.slice a16 len16 cap16) ∧ ∃ (cs17 : Array Value), PureV Tryd.prog (Instr.build 37 ⟨[(0, (Value.slice a16 len16 cap16)), (1, (Value.slice none 0 0)), (2, (Value.string ⟨⟨[97, 44, 97, 47, 98,
    44]⟩⟩)), (3, (Value.string ⟨⟨[]⟩⟩))]⟩) (Value.agg cs17) ∧ CallsH Tryd.prog 21 ⟨[(Value.string ⟨⟨[97]⟩⟩)]⟩ H3 (fun r19 H4 => ∃ (cs19 : Array Value), r19 = (Value.agg cs19) ∧ CallsH Tryd.prog 21
    ⟨[(Value.string ⟨⟨[97, 47, 98]⟩⟩)]⟩ H4 (fun r21 H5 => ∃ (cs21 : Array Value), r21 = (Value.agg cs21) ∧ SemH Tryd.prog (Instr.buildSlice 22 2 ⟨[(0, (Value.agg cs19)), (1, (Value.agg cs21))]⟩) H5
    (fun r22 H6 => ∃ (a22 : Option Addr) (len22 cap22 : Nat), r22 = (Value.slice a22 len22 cap22) ∧ CallsH Tryd.prog 19 ⟨[(Value.string ⟨⟨[97]⟩⟩)]⟩ H6 (fun r24 H7 => ∃ (cs24 : Array Value), r24 =
    (Value.agg cs24) ∧ CallsH Tryd.prog 20 ⟨[(Value.string ⟨⟨[97, 47, 98]⟩⟩)]⟩ H7 (fun r26 H8 => ∃ (cs26 : Array Value), r26 = (Value.agg cs26) ∧ SemH Tryd.prog (Instr.buildSlice 22 2 ⟨[(0, (Value.agg
    cs24)), (1, (Value.agg cs26))]⟩) H8 (fun r27 H9 => ∃ (a27 : Option Addr) (len27 cap27 : Nat), r27 = (Value.slice a27 len27 cap27) ∧ ∃ (cs28 : Array Value), PureV Tryd.prog (Instr.build 37 ⟨[(0,
    (Value.slice a22 len22 cap22)), (1, (Value.slice a27 len27 cap27)), (2, (Value.string ⟨⟨[97, 47, 98, 44]⟩⟩)), (3, (Value.string ⟨⟨[]⟩⟩))]⟩) (Value.agg cs28) ∧ CallsH Tryd.prog 20 ⟨[(Value.string
    ⟨⟨[97]⟩⟩)]⟩ H9 (fun r30 H10 => ∃ (cs30 : Array Value), r30 = (Value.agg cs30) ∧ CallsH Tryd.prog 21 ⟨[(Value.string ⟨⟨[97, 47, 98]⟩⟩)]⟩ H10 (fun r32 H11 => ∃ (cs32 : Array Value), r32 = (Value.agg
    cs32) ∧ SemH Tryd.prog (Instr.buildSlice 22 2 ⟨[(0, (Value.agg cs30)), (1, (Value.agg cs32))]⟩) H11 (fun r33 H12 => ∃ (a33 : Option Addr) (len33 cap33 : Nat), r33 = (Value.slice a33 len33 cap33) ∧
    CallsH Tryd.prog 19 ⟨[(Value.string ⟨⟨[97]⟩⟩)]⟩ H12 (fun r35 H13 => ∃ (cs35 : Array Value), r35 = (Value.agg cs35) ∧ CallsH Tryd.prog 20 ⟨[(Value.string ⟨⟨[97, 47, 98]⟩⟩)]⟩ H13 (fun r37 H14 => ∃
    (cs37 : Array Value), r37 = (Value.agg cs37) ∧ SemH Tryd.prog (Instr.buildSlice 22 2 ⟨[(0, (Value.agg cs35)), (1, (Value.agg cs37))]⟩) H14 (fun r38 H15 => ∃ (a38 : Option Addr) (len38 cap38 :
    Nat), r38 = (Value.slice a38 len38 cap38) ∧ ∃ (cs39 : Array Value), PureV Tryd.prog (Instr.build 37 ⟨[(0, (Value.slice a33 len33 cap33)), (1, (Value.slice a38 len38 cap38)), (2, (Value.string
    ⟨⟨[97, 47, 98, 44]⟩⟩)), (3, (Value.string ⟨⟨[]⟩⟩))]⟩) (Value.agg cs39) ∧ CallsH Tryd.prog 20 ⟨[(Value.string ⟨⟨[97]⟩⟩)]⟩ H15 (fun r41 H16 => ∃ (cs41 : Array Value), r41 = (Value.agg cs41) ∧ SemH
    Tryd.prog (Instr.buildSlice 22 1 ⟨[(0, (Value.agg cs41))]⟩) H16 (fun r42 H17 => ∃ (a42 : Option Addr) (len42 cap42 : Nat), r42 = (Value.slice a42 len42 cap42) ∧ CallsH Tryd.prog 19 ⟨[(Value.string
    ⟨⟨[97]⟩⟩)]⟩ H17 (fun r44 H18 => ∃ (cs44 : Array Value), r44 = (Value.agg cs44) ∧ CallsH Tryd.prog 20 ⟨[(Value.string ⟨⟨[97, 47, 98]⟩⟩)]⟩ H18 (fun r46 H19 => ∃ (cs46 : Array Value), r46 =
    (Value.agg cs46) ∧ SemH Tryd.prog (Instr.buildSlice 22 2 ⟨[(0, (Value.agg cs44)), (1, (Value.agg cs46))]⟩) H19 (fun r47 H20 => ∃ (a47 : Option Addr) (len47 cap47 : Nat), r47 = (Value.slice a47
    len47 cap47) ∧ ∃ (cs48 : Array Value), PureV Tryd.prog (Instr.build 37 ⟨[(0, (Value.slice a42 len42 cap42)), (1, (Value.slice a47 len47 cap47)), (2, (Value.string ⟨⟨[]⟩⟩)), (3, (Value.string
    ⟨⟨[97, 44]⟩⟩))]⟩) (Value.agg cs48) ∧ CallsH Tryd.prog 21 ⟨[(Value.string ⟨⟨[97]⟩⟩)]⟩ H20 (fun r50 H21 => ∃ (cs50 : Array Value), r50 = (Value.agg cs50) ∧ SemH Tryd.prog (Instr.buildSlice 22 1
    ⟨[(0, (Value.agg cs50))]⟩) H21 (fun r51 H22 => ∃ (a51 : Option Addr) (len51 cap51 : Nat), r51 = (Value.slice a51 len51 cap51) ∧ CallsH Tryd.prog 19 ⟨[(Value.string ⟨⟨[97]⟩⟩)]⟩ H22 (fun r53 H23 =>
    ∃ (cs53 : Array Value), r53 = (Value.agg cs53) ∧ CallsH Tryd.prog 20 ⟨[(Value.string ⟨⟨[97, 47, 98]⟩⟩)]⟩ H23 (fun r55 H24 => ∃ (cs55 : Array Value), r55 = (Value.agg cs55) ∧ SemH Tryd.prog
    (Instr.buildSlice 22 2 ⟨[(0, (Value.agg cs53)), (1, (Value.agg cs55))]⟩) H24 (fun r56 H25 => ∃ (a56 : Option Addr) (len56 cap56 : Nat), r56 = (Value.slice a56 len56 cap56) ∧ ∃ (cs57 : Array
    Value), PureV Tryd.prog (Instr.build 37 ⟨[(0, (Value.slice a51 len51 cap51)), (1, (Value.slice a56 len56 cap56)), (2, (Value.string ⟨⟨[]⟩⟩)), (3, (Value.string ⟨⟨[97, 44]⟩⟩))]⟩) (Value.agg cs57) ∧
    CallsH Tryd.prog 20 ⟨[(Value.string ⟨⟨[97, 47, 98]⟩⟩)]⟩ H25 (fun r59 H26 => ∃ (cs59 : Array Value), r59 = (Value.agg cs59) ∧ SemH Tryd.prog (Instr.buildSlice 22 1 ⟨[(0, (Value.agg cs59))]⟩) H26
    (fun r60 H27 => ∃ (a60 : Option Addr) (len60 cap60 : Nat), r60 = (Value.slice a60 len60 cap60) ∧ CallsH Tryd.prog 20 ⟨[(Value.string ⟨⟨[97]⟩⟩)]⟩ H27 (fun r62 H28 => ∃ (cs62 : Array Value), r62 =
    (Value.agg cs62) ∧ SemH Tryd.prog (Instr.buildSlice 22 1 ⟨[(0, (Value.agg cs62))]⟩) H28 (fun r63 H29 => ∃ (a63 : Option Addr) (len63 cap63 : Nat), r63 = (Value.slice a63 len63 cap63) ∧ ∃ (cs64 :
    Array Value), PureV Tryd.prog (Instr.build 37 ⟨[(0, (Value.slice a60 len60 cap60)), (1, (Value.slice a63 len63 cap63)), (2, (Value.string ⟨⟨[]⟩⟩)), (3, (Value.string ⟨⟨[97, 44]⟩⟩))]⟩) (Value.agg
    cs64) ∧ CallsH Tryd.prog 20 ⟨[(Value.string ⟨⟨[97, 47, 98]⟩⟩)]⟩ H29 (fun r66 H30 => ∃ (cs66 : Array Value), r66 = (Value.agg cs66) ∧ SemH Tryd.prog (Instr.buildSlice 22 1 ⟨[(0, (Value.agg
    cs66))]⟩) H30 (fun r67 H31 => ∃ (a67 : Option Addr) (len67 cap67 : Nat), r67 = (Value.slice a67 len67 cap67) ∧ CallsH Tryd.prog 21 ⟨[(Value.string ⟨⟨[97]⟩⟩)]⟩ H31 (fun r69 H32 => ∃ (cs69 : Array
    Value), r69 = (Value.agg cs69) ∧ SemH Tryd.prog (Instr.buildSlice 22 1 ⟨[(0, (Value.agg cs69))]⟩) H32 (fun r70 H33 => ∃ (a70 : Option Addr) (len70 cap70 : Nat), r70 = (Value.slice a70 len70 cap70)
    ∧ ∃ (cs71 : Array Value), PureV Tryd.prog (Instr.build 37 ⟨[(0, (Value.slice a67 len67 cap67)), (1, (Value.slice a70 len70 cap70)), (2, (Value.string ⟨⟨[97, 47, 98, 44]⟩⟩)), (3, (Value.string
    ⟨⟨[97, 44]⟩⟩))]⟩) (Value.agg cs71) ∧ CallsH Tryd.prog 21 ⟨[(Value.string ⟨⟨[98]⟩⟩)]⟩ H33 (fun r73 H34 => ∃ (cs73 : Array Value), r73 = (Value.agg cs73) ∧ CallsH Tryd.prog 20 ⟨[(Value.string
    ⟨⟨[99]⟩⟩)]⟩ H34 (fun r75 H35 => ∃ (cs75 : Array Value), r75 = (Value.agg cs75) ∧ CallsH Tryd.prog 21 ⟨[(Value.string ⟨⟨[97]⟩⟩)]⟩ H35 (fun r77 H36 => ∃ (cs77 : Array Value), r77 = (Value.agg cs77)
    ∧ CallsH Tryd.prog 20 ⟨[(Value.string ⟨⟨[97, 47, 47, 98]⟩⟩)]⟩ H36 (fun r79 H37 => ∃ (cs79 : Array Value), r79 = (Value.agg cs79) ∧ ∃ (cs80 : Array Value), PureV Tryd.prog (Instr.build 35 ⟨[(0,
    (Value.string ⟨⟨[122]⟩⟩))]⟩) (Value.agg cs80) ∧ SemH Tryd.prog (Instr.buildSlice 22 5 ⟨[(0, (Value.agg cs73)), (1, (Value.agg cs75)), (2, (Value.agg cs77)), (3, (Value.agg cs79)), (4, (Value.agg
    cs80))]⟩) H37 (fun r81 H38 => ∃ (a81 : Option Addr) (len81 cap81 : Nat), r81 = (Value.slice a81 len81 cap81) ∧ CallsH Tryd.prog 20 ⟨[(Value.string ⟨⟨[98]⟩⟩)]⟩ H38 (fun r83 H39 => ∃ (cs83 : Array
    Value), r83 = (Value.agg cs83) ∧ CallsH Tryd.prog 20 ⟨[(Value.string ⟨⟨[97]⟩⟩)]⟩ H39 (fun r85 H40 => ∃ (cs85 : Array Value), r85 = (Value.agg cs85) ∧ SemH Tryd.prog (Instr.buildSlice 22 2 ⟨[(0,
    (Value.agg cs83)), (1, (Value.agg cs85))]⟩) H40 (fun r86 H41 => ∃ (a86 : Option Addr) (len86 cap86 : Nat), r86 = (Value.slice a86 len86 cap86) ∧ ∃ (cs87 : Array Value), PureV Tryd.prog
    (Instr.build 37 ⟨[(0, (Value.slice a81 len81 cap81)), (1, (Value.slice a86 len86 cap86)), (2, (Value.string ⟨⟨[99, 44, 98, 44, 97, 44]⟩⟩)), (3, (Value.string ⟨⟨[]⟩⟩))]⟩) (Value.agg cs87) ∧ CallsH
    Tryd.prog 20 ⟨[(Value.string ⟨⟨[97]⟩⟩)]⟩ H41 (fun r89 H42 => ∃ (cs89 : Array Value), r89 = (Value.agg cs89) ∧ CallsH Tryd.prog 19 ⟨[(Value.string ⟨⟨[97]⟩⟩)]⟩ H42 (fun r91 H43 => ∃ (cs91 : Array
    Value), r91 = (Value.agg cs91) ∧ SemH Tryd.prog (Instr.buildSlice 22 2 ⟨[(0, (Value.agg cs89)), (1, (Value.agg cs91))]⟩) H43 (fun r92 H44 => ∃ (a92 : Option Addr) (len92 cap92 : Nat), r92 =
    (Value.slice a92 len92 cap92) ∧ CallsH Tryd.prog 19 ⟨[(Value.string ⟨⟨[97]⟩⟩)]⟩ H44 (fun r94 H45 => ∃ (cs94 : Array Value), r94 = (Value.agg cs94) ∧ CallsH Tryd.prog 20 ⟨[(Value.string ⟨⟨[97, 47,
    98]⟩⟩)]⟩ H45 (fun r96 H46 => ∃ (cs96 : Array Value), r96 = (Value.agg cs96) ∧ SemH Tryd.prog (Instr.buildSlice 22 2 ⟨[(0, (Value.agg cs94)), (1, (Value.agg cs96))]⟩) H46 (fun r97 H47 => ∃ (a97 :
    Option Addr) (len97 cap97 : Nat), r97 = (Value.slice a97 len97 cap97) ∧ ∃ (cs98 : Array Value), PureV Tryd.prog (Instr.build 37 ⟨[(0, (Value.slice a92 len92 cap92)), (1, (Value.slice a97 len97
    cap97)), (2, (Value.string ⟨⟨[97, 44]⟩⟩)), (3, (Value.string ⟨⟨[]⟩⟩))]⟩) (Value.agg cs98) ∧ SemH Tryd.prog (Instr.buildSlice 38 9 ⟨[(0, (Value.agg cs17)), (1, (Value.agg cs28)), (2, (Value.agg
    cs39)), (3, (Value.agg cs48)), (4, (Value.agg cs57)), (5, (Value.agg cs64)), (6, (Value.agg cs71)), (7, (Value.agg cs87)), (8, (Value.agg cs98))]⟩) H47 (fun r99 H48 => ∃ (a99 : Option Addr) (len99
    cap99 : Nat), r99 = (Value.slice a99 len99 cap99) ∧ ∃ (I6 : List Value → Heap → Prop) (m6 : List Value → Heap → Nat), ((∃ n : Int, (Value.int .i64 (0 : Int)) = Value.int .i64 n) ∧ I6 [(Value.int
    .i64 (0 : Int))] H48) ∧ (∀ (n5 : Int), ∀ H49, I6 [(Value.int .i64 n5)] H49 → (((decide (n5 < ((len99 : Nat) : Int))) = true → ∃ ad108, (a99 = some ad108 ∧ 0 ≤ n5 ∧ n5 < ((len99 : Nat) : Int)) ∧ ∃
    (a110 : Option Addr) (len110 cap110 : Nat), cellAt H49 (Addr.add (Addr.add ad108 (Int.toNat n5 * 4)) 0) = some (Value.slice a110 len110 cap110) ∧ ∃ ad113, (a99 = some ad113 ∧ 0 ≤ n5 ∧ n5 < ((len99
    : Nat) : Int)) ∧ ∃ (a115 : Option Addr) (len115 cap115 : Nat), cellAt H49 (Addr.add (Addr.add ad113 (Int.toNat n5 * 4)) 1) = some (Value.slice a115 len115 cap115) ∧ CallsH Tryd.prog 9
    ⟨[(Value.slice a110 len110 cap110), (Value.slice a115 len115 cap115)]⟩ H49 (fun r116 H50 => ∃ (a116 : Option Addr) (len116 cap116 : Nat), r116 = (Value.slice a116 len116 cap116) ∧ Ext H49 H50 ∧ ∃
    (I11 : List Value → Heap → Prop) (m11 : List Value → Heap → Nat), ((∃ l : List UInt8, (Value.string ⟨⟨[]⟩⟩) = Value.string ⟨⟨l⟩⟩) ∧ (∃ n : Int, (Value.int .i64 (0 : Int)) = Value.int .i64 n) ∧ I11
    [(Value.string ⟨⟨[]⟩⟩), (Value.int .i64 (0 : Int))] H50) ∧ (∀ (l6 : List UInt8) (n9 : Int), ∀ H51, I11 [(Value.string ⟨⟨l6⟩⟩), (Value.int .i64 n9)] H51 → (((decide (n9 < ((len116 : Nat) : Int))) =
    true → ∃ ad126, (a116 = some ad126 ∧ 0 ≤ n9 ∧ n9 < ((len116 : Nat) : Int)) ∧ ∃ (l128 : List UInt8), cellAt H51 (Addr.add (Addr.add ad126 (Int.toNat n9 * 27)) 0) = some (Value.string ⟨⟨l128⟩⟩) ∧
    ((List.length l6 + List.length l128 : Nat) : Int) ≤ 9223372036854775807 ∧ ((List.length (l6 ++ l128) + List.length [44] : Nat) : Int) ≤ 9223372036854775807 ∧ (∃ l : List UInt8, (Value.string ⟨⟨(l6
    ++ l128) ++ [44]⟩⟩) = Value.string ⟨⟨l⟩⟩) ∧ (∃ n : Int, (Value.int .i64 (IntKind.wrap .i64 (n9 + (1 : Int)))) = Value.int .i64 n) ∧ I11 [(Value.string ⟨⟨(l6 ++ l128) ++ [44]⟩⟩), (Value.int .i64
    (IntKind.wrap .i64 (n9 + (1 : Int))))] H51 ∧ m11 [(Value.string ⟨⟨(l6 ++ l128) ++ [44]⟩⟩), (Value.int .i64 (IntKind.wrap .i64 (n9 + (1 : Int))))] H51 < m11 [(Value.string ⟨⟨l6⟩⟩), (Value.int .i64
    n9)] H51) ∧ ((decide (n9 < ((len116 : Nat) : Int))) = false → ∃ ad133, (a99 = some ad133 ∧ 0 ≤ n5 ∧ n5 < ((len99 : Nat) : Int)) ∧ ∃ (a135 : Option Addr) (len135 cap135 : Nat), cellAt H51 (Addr.add
    (Addr.add ad133 (Int.toNat n5 * 4)) 0) = some (Value.slice a135 len135 cap135) ∧ ∃ ad138, (a99 = some ad138 ∧ 0 ≤ n5 ∧ n5 < ((len99 : Nat) : Int)) ∧ ∃ (a140 : Option Addr) (len140 cap140 : Nat),
    cellAt H51 (Addr.add (Addr.add ad138 (Int.toNat n5 * 4)) 1) = some (Value.slice a140 len140 cap140) ∧ CallsH Tryd.prog 14 ⟨[(Value.slice a135 len135 cap135), (Value.slice a140 len140 cap140)]⟩ H51
    (fun r141 H52 => ∃ (a141 : Option Addr) (len141 cap141 : Nat), r141 = (Value.slice a141 len141 cap141) ∧ Ext H51 H52 ∧ ∃ (I16 : List Value → Heap → Prop) (m16 : List Value → Heap → Nat), ((∃ l :
    List UInt8, (Value.string ⟨⟨[]⟩⟩) = Value.string ⟨⟨l⟩⟩) ∧ (∃ n : Int, (Value.int .i64 (0 : Int)) = Value.int .i64 n) ∧ I16 [(Value.string ⟨⟨[]⟩⟩), (Value.int .i64 (0 : Int))] H52) ∧ (∀ (l7 : List
    UInt8) (n11 : Int), ∀ H53, I16 [(Value.string ⟨⟨l7⟩⟩), (Value.int .i64 n11)] H53 → (((decide (n11 < ((len141 : Nat) : Int))) = true → ∃ ad151, (a141 = some ad151 ∧ 0 ≤ n11 ∧ n11 < ((len141 : Nat)
    : Int)) ∧ ∃ (l152 : List UInt8), cellAt H53 (Addr.add ad151 (Int.toNat n11 * 1)) = some (Value.string ⟨⟨l152⟩⟩) ∧ ((List.length l7 + List.length l152 : Nat) : Int) ≤ 9223372036854775807 ∧
    ((List.length (l7 ++ l152) + List.length [44] : Nat) : Int) ≤ 9223372036854775807 ∧ (∃ l : List UInt8, (Value.string ⟨⟨(l7 ++ l152) ++ [44]⟩⟩) = Value.string ⟨⟨l⟩⟩) ∧ (∃ n : Int, (Value.int .i64
    (IntKind.wrap .i64 (n11 + (1 : Int)))) = Value.int .i64 n) ∧ I16 [(Value.string ⟨⟨(l7 ++ l152) ++ [44]⟩⟩), (Value.int .i64 (IntKind.wrap .i64 (n11 + (1 : Int))))] H53 ∧ m16 [(Value.string ⟨⟨(l7 ++
    l152) ++ [44]⟩⟩), (Value.int .i64 (IntKind.wrap .i64 (n11 + (1 : Int))))] H53 < m16 [(Value.string ⟨⟨l7⟩⟩), (Value.int .i64 n11)] H53) ∧ ((decide (n11 < ((len141 : Nat) : Int))) = false → ∃ ad158,
    (a99 = some ad158 ∧ 0 ≤ n5 ∧ n5 < ((len99 : Nat) : Int)) ∧ ∃ (l160 : List UInt8), cellAt H53 (Addr.add (Addr.add ad158 (Int.toNat n5 * 4)) 2) = some (Value.string ⟨⟨l160⟩⟩) ∧ ∃ ad166, ((!(l6 ==
    l160)) = false → (a99 = some ad166 ∧ 0 ≤ n5 ∧ n5 < ((len99 : Nat) : Int))) ∧ ∃ (l168 : List UInt8), ((!(l6 == l160)) = false → cellAt H53 (Addr.add (Addr.add ad166 (Int.toNat n5 * 4)) 3) = some
    (Value.string ⟨⟨l168⟩⟩)) ∧ (((cond (!(l6 == l160)) true (!(l7 == l168))) = true → R (Value.bool false) H53) ∧ ((cond (!(l6 == l160)) true (!(l7 == l168))) = false → (∃ n : Int, (Value.int .i64
    (IntKind.wrap .i64 (n5 + (1 : Int)))) = Value.int .i64 n) ∧ I6 [(Value.int .i64 (IntKind.wrap .i64 (n5 + (1 : Int))))] H53 ∧ m6 [(Value.int .i64 (IntKind.wrap .i64 (n5 + (1 : Int))))] H53 < m6
    [(Value.int .i64 n5)] H49))))))))))) ∧ ((decide (n5 < ((len99 : Nat) : Int))) = false → CallsH Tryd.prog 9 ⟨[(Value.slice none 0 0), (Value.slice none 0 0)]⟩ H49 (fun r171 H54 => ∃ (a171 : Option
    Addr) (len171 cap171 : Nat), r171 = (Value.slice a171 len171 cap171) ∧ (((((len171 : Nat) : Int) == (0 : Int)) = true → CallsH Tryd.prog 14 ⟨[(Value.slice none 0 0), (Value.slice none 0 0)]⟩ H54
    (fun r175 H55 => ∃ (a175 : Option Addr) (len175 cap175 : Nat), r175 = (Value.slice a175 len175 cap175) ∧ (((((len175 : Nat) : Int) == (0 : Int)) = true → CallsH Tryd.prog 13 ⟨[]⟩ H55 (fun r180 H56
    => ∃ (b180 : Bool), r180 = (Value.bool b180) ∧ R (Value.bool b180) H56)) ∧ ((((len175 : Nat) : Int) == (0 : Int)) = false → R (Value.bool false) H55)))) ∧ ((((len171 : Nat) : Int) == (0 : Int)) =
    false → R (Value.bool false) H54))))))))))))))))))))))))))))))))))))))))))))))))))))))
theorem caravanlaw20_QueueKnown.eq  (R : Value → Heap → Prop) (H0 : Heap) : funcVC Tryd.prog tab fns [] [(6, [(5, 3)]), (11, [(6, 9), (9, 3)]), (16, [(7, 9), (11, 3)])] Tryd.f5 [] R H0 = caravanlaw20_QueueKnown.vc  R H0 := by kernel_rfl
theorem caravanlaw20_QueueKnown.ok  {R : Value → Heap → Prop} {H0 : Heap} (h : caravanlaw20_QueueKnown.vc  R H0) : CallsH Tryd.prog 5 ⟨[]⟩ H0 R :=
  funcVC_sound tab_ok fns_ok mixed_ok Tryd.func5 (cast (caravanlaw20_QueueKnown.eq  R H0).symm h)

/-- caravan/caravanlaw20.QueueTree -/
def caravanlaw20_QueueTree.vc (aarg0 : Option Addr) (lenarg0 caparg0 : Nat) (aarg1 : Option Addr) (lenarg1 caparg1 : Nat) (aarg2 : Option Addr) (lenarg2 caparg2 : Nat) (R : Value → Heap → Prop) (H0 : Heap) : Prop :=
  CallsH Tryd.prog 10 ⟨[(Value.slice aarg0 lenarg0 caparg0)]⟩ H0 (fun r13 H1 => ∃ (a13 : Option Addr) (len13 cap13 : Nat), r13 = (Value.slice a13 len13 cap13) ∧ CallsH Tryd.prog 16 ⟨[(Value.slice a13
    len13 cap13), (Value.slice none 0 0)]⟩ H1 (fun r14 H2 => ∃ (a14 : Option Addr) (len14 cap14 : Nat), r14 = (Value.slice a14 len14 cap14) ∧ CallsH Tryd.prog 10 ⟨[(Value.slice aarg1 lenarg1
    caparg1)]⟩ H2 (fun r16 H3 => ∃ (a16 : Option Addr) (len16 cap16 : Nat), r16 = (Value.slice a16 len16 cap16) ∧ CallsH Tryd.prog 16 ⟨[(Value.slice none 0 0), (Value.slice a16 len16 cap16)]⟩ H3 (fun
    r17 H4 => ∃ (a17 : Option Addr) (len17 cap17 : Nat), r17 = (Value.slice a17 len17 cap17) ∧ CallsH Tryd.prog 22 ⟨[(Value.slice a17 len17 cap17)]⟩ H4 (fun r19 H5 => ∃ (b19 : Bool), r19 = (Value.bool
    b19) ∧ (((!b19) = true → CallsH Tryd.prog 13 ⟨[]⟩ H5 (fun r21 H6 => ∃ (b21 : Bool), r21 = (Value.bool b21) ∧ R (Value.bool b21) H6)) ∧ ((!b19) = false → ∃ (I6 : List Value → Heap → Prop) (m6 :
    List Value → Heap → Nat), ((∃ (a : Option Addr) (l c : Nat), (Value.slice a14 len14 cap14) = Value.slice a l c) ∧ (∃ (a : Option Addr) (l c : Nat), (Value.slice a17 len17 cap17) = Value.slice a l
    c) ∧ (∃ n : Int, (Value.int .i64 (0 : Int)) = Value.int .i64 n) ∧ I6 [(Value.slice a14 len14 cap14), (Value.slice a17 len17 cap17), (Value.int .i64 (0 : Int))] H5) ∧ (∀ (a7 : Option Addr) (len7
    cap7 : Nat) (a8 : Option Addr) (len8 cap8 : Nat) (n9 : Int), ∀ H7, I6 [(Value.slice a7 len7 cap7), (Value.slice a8 len8 cap8), (Value.int .i64 n9)] H7 → (((cond (decide (n9 < ((lenarg2 : Nat) :
    Int))) (decide (n9 < (30 : Int))) false) = true → CallsH Tryd.prog 9 ⟨[(Value.slice a7 len7 cap7), (Value.slice a8 len8 cap8)]⟩ H7 (fun r34 H8 => ∃ (a34 : Option Addr) (len34 cap34 : Nat), r34 =
    (Value.slice a34 len34 cap34) ∧ (((((len34 : Nat) : Int) == (0 : Int)) = true → CallsH Tryd.prog 13 ⟨[]⟩ H8 (fun r56 H9 => ∃ (b56 : Bool), r56 = (Value.bool b56) ∧ R (Value.bool b56) H9)) ∧
    ((((len34 : Nat) : Int) == (0 : Int)) = false → CallsH Tryd.prog 23 ⟨[(Value.slice aarg2 lenarg2 caparg2), (Value.int .i64 n9), (Value.int .i64 ((len34 : Nat) : Int))]⟩ H8 (fun r43 H10 => ∃ (n43 :
    Int), r43 = (Value.int .i64 n43) ∧ ∃ ad44, (a34 = some ad44 ∧ 0 ≤ n43 ∧ n43 < ((len34 : Nat) : Int)) ∧ ∃ cs45, RdN H10 (Addr.add ad44 (Int.toNat n43 * 27)) 27 cs45 ∧ ∀ g11 H11, NewB H10 35 (zc 35)
    g11 H11 → ∃ H12, cs45.size = 27 ∧ wrN H11 ⟨g11, 0, none⟩ cs45.toList 0 = some H12 ∧ ∃ cs47, RdN H12 ⟨g11, 0, none⟩ 27 cs47 ∧ CallsH Tryd.prog 24 ⟨[(Value.slice a8 len8 cap8), (Value.agg cs47)]⟩
    H12 (fun r48 H13 => ∃ (a48 : Option Addr) (len48 cap48 : Nat), r48 = (Value.slice a48 len48 cap48) ∧ ∃ (l51 : List UInt8), cellAt H13 (Addr.add ⟨g11, 0, none⟩ 0) = some (Value.string ⟨⟨l51⟩⟩) ∧
    CallsH Tryd.prog 25 ⟨[(Value.slice a7 len7 cap7), (Value.string ⟨⟨l51⟩⟩)]⟩ H13 (fun r52 H14 => ∃ (a52 : Option Addr) (len52 cap52 : Nat), r52 = (Value.slice a52 len52 cap52) ∧ CallsH Tryd.prog 22
    ⟨[(Value.slice a48 len48 cap48)]⟩ H14 (fun r54 H15 => ∃ (b54 : Bool), r54 = (Value.bool b54) ∧ (((!b54) = true → R (Value.bool false) H15) ∧ ((!b54) = false → (∃ (a : Option Addr) (l c : Nat),
    (Value.slice a52 len52 cap52) = Value.slice a l c) ∧ (∃ (a : Option Addr) (l c : Nat), (Value.slice a48 len48 cap48) = Value.slice a l c) ∧ (∃ n : Int, (Value.int .i64 (IntKind.wrap .i64 (n9 + (1
    : Int)))) = Value.int .i64 n) ∧ I6 [(Value.slice a52 len52 cap52), (Value.slice a48 len48 cap48), (Value.int .i64 (IntKind.wrap .i64 (n9 + (1 : Int))))] H15 ∧ m6 [(Value.slice a52 len52 cap52),
    (Value.slice a48 len48 cap48), (Value.int .i64 (IntKind.wrap .i64 (n9 + (1 : Int))))] H15 < m6 [(Value.slice a7 len7 cap7), (Value.slice a8 len8 cap8), (Value.int .i64 n9)] H7)))))))))) ∧ ((cond
    (decide (n9 < ((lenarg2 : Nat) : Int))) (decide (n9 < (30 : Int))) false) = false → CallsH Tryd.prog 13 ⟨[]⟩ H7 (fun r56_1 H16 => ∃ (b56_1 : Bool), r56_1 = (Value.bool b56_1) ∧ R (Value.bool
    b56_1) H16)))))))))))
theorem caravanlaw20_QueueTree.eq (aarg0 : Option Addr) (lenarg0 caparg0 : Nat) (aarg1 : Option Addr) (lenarg1 caparg1 : Nat) (aarg2 : Option Addr) (lenarg2 caparg2 : Nat) (R : Value → Heap → Prop) (H0 : Heap) : funcVC Tryd.prog tab fns [] [(6, [(7, 22), (8, 22), (9, 3)])] Tryd.f6 [(Value.slice aarg0 lenarg0 caparg0), (Value.slice aarg1 lenarg1 caparg1), (Value.slice aarg2 lenarg2 caparg2)] R H0 = caravanlaw20_QueueTree.vc aarg0 lenarg0 caparg0 aarg1 lenarg1 caparg1 aarg2 lenarg2 caparg2 R H0 := by kernel_rfl
theorem caravanlaw20_QueueTree.ok {aarg0 : Option Addr} {lenarg0 caparg0 : Nat} {aarg1 : Option Addr} {lenarg1 caparg1 : Nat} {aarg2 : Option Addr} {lenarg2 caparg2 : Nat} {R : Value → Heap → Prop} {H0 : Heap} (h : caravanlaw20_QueueTree.vc aarg0 lenarg0 caparg0 aarg1 lenarg1 caparg1 aarg2 lenarg2 caparg2 R H0) : CallsH Tryd.prog 6 ⟨[(Value.slice aarg0 lenarg0 caparg0), (Value.slice aarg1 lenarg1 caparg1), (Value.slice aarg2 lenarg2 caparg2)]⟩ H0 R :=
  funcVC_sound tab_ok fns_ok mixed_ok Tryd.func6 (cast (caravanlaw20_QueueTree.eq aarg0 lenarg0 caparg0 aarg1 lenarg1 caparg1 aarg2 lenarg2 caparg2 R H0).symm h)

/-- caravan/caravanlaw20.QueueOrder -/
def caravanlaw20_QueueOrder.vc (aarg0 : Option Addr) (lenarg0 caparg0 : Nat) (aarg1 : Option Addr) (lenarg1 caparg1 : Nat) (R : Value → Heap → Prop) (H0 : Heap) : Prop :=
  CallsH Tryd.prog 10 ⟨[(Value.slice aarg0 lenarg0 caparg0)]⟩ H0 (fun r12 H1 => ∃ (a12 : Option Addr) (len12 cap12 : Nat), r12 = (Value.slice a12 len12 cap12) ∧ CallsH Tryd.prog 10 ⟨[(Value.slice aarg1
    lenarg1 caparg1)]⟩ H1 (fun r14 H2 => ∃ (a14 : Option Addr) (len14 cap14 : Nat), r14 = (Value.slice a14 len14 cap14) ∧ CallsH Tryd.prog 9 ⟨[(Value.slice a12 len12 cap12), (Value.slice a14 len14
    cap14)]⟩ H2 (fun r15 H3 => ∃ (a15 : Option Addr) (len15 cap15 : Nat), r15 = (Value.slice a15 len15 cap15) ∧ CallsH Tryd.prog 10 ⟨[(Value.slice aarg0 lenarg0 caparg0)]⟩ H3 (fun r17 H4 => ∃ (a17 :
    Option Addr) (len17 cap17 : Nat), r17 = (Value.slice a17 len17 cap17) ∧ CallsH Tryd.prog 16 ⟨[(Value.slice a17 len17 cap17), (Value.slice none 0 0)]⟩ H4 (fun r18 H5 => ∃ (a18 : Option Addr) (len18
    cap18 : Nat), r18 = (Value.slice a18 len18 cap18) ∧ ∃ (I4 : List Value → Heap → Prop) (m4 : List Value → Heap → Nat), ((∃ n : Int, (Value.int .i64 (0 : Int)) = Value.int .i64 n) ∧ I4 [(Value.int
    .i64 (0 : Int))] H5) ∧ (∀ (n7 : Int), ∀ H6, I4 [(Value.int .i64 n7)] H6 → (((decide (n7 < ((len15 : Nat) : Int))) = true → ∃ (I8 : List Value → Heap → Prop) (m8 : List Value → Heap → Nat), ((∃ b :
    Bool, (Value.bool false) = Value.bool b) ∧ (∃ n : Int, (Value.int .i64 (0 : Int)) = Value.int .i64 n) ∧ I8 [(Value.bool false), (Value.int .i64 (0 : Int))] H6) ∧ (∀ (b8 : Bool) (n9 : Int), ∀ H7,
    I8 [(Value.bool b8), (Value.int .i64 n9)] H7 → (((decide (n9 < ((len18 : Nat) : Int))) = true → ∃ ad33, (a18 = some ad33 ∧ 0 ≤ n9 ∧ n9 < ((len18 : Nat) : Int)) ∧ ∃ (l35 : List UInt8), cellAt H7
    (Addr.add (Addr.add ad33 (Int.toNat n9 * 27)) 0) = some (Value.string ⟨⟨l35⟩⟩) ∧ ∃ ad38, (a15 = some ad38 ∧ 0 ≤ n7 ∧ n7 < ((len15 : Nat) : Int)) ∧ ∃ (l40 : List UInt8), cellAt H7 (Addr.add
    (Addr.add ad38 (Int.toNat n7 * 27)) 0) = some (Value.string ⟨⟨l40⟩⟩) ∧ (((l35 == l40) = true → ∃ ad44, (a18 = some ad44 ∧ 0 ≤ n9 ∧ n9 < ((len18 : Nat) : Int)) ∧ ∃ cs45, RdN H7 (Addr.add ad44
    (Int.toNat n9 * 27)) 27 cs45 ∧ ∃ ad48, (a15 = some ad48 ∧ 0 ≤ n7 ∧ n7 < ((len15 : Nat) : Int)) ∧ ∃ cs49, RdN H7 (Addr.add ad48 (Int.toNat n7 * 27)) 27 cs49 ∧ CallsH Tryd.prog 26 ⟨[(Value.agg
    cs45), (Value.agg cs49)]⟩ H7 (fun r50 H8 => ∃ (b50 : Bool), r50 = (Value.bool b50) ∧ Ext H7 H8 ∧ (∃ b : Bool, (Value.bool b50) = Value.bool b) ∧ (∃ n : Int, (Value.int .i64 (IntKind.wrap .i64 (n9
    + (1 : Int)))) = Value.int .i64 n) ∧ I8 [(Value.bool b50), (Value.int .i64 (IntKind.wrap .i64 (n9 + (1 : Int))))] H8 ∧ m8 [(Value.bool b50), (Value.int .i64 (IntKind.wrap .i64 (n9 + (1 : Int))))]
    H8 < m8 [(Value.bool b8), (Value.int .i64 n9)] H7)) ∧ ((l35 == l40) = false → (∃ b : Bool, (Value.bool b8) = Value.bool b) ∧ (∃ n : Int, (Value.int .i64 (IntKind.wrap .i64 (n9 + (1 : Int)))) =
    Value.int .i64 n) ∧ I8 [(Value.bool b8), (Value.int .i64 (IntKind.wrap .i64 (n9 + (1 : Int))))] H7 ∧ m8 [(Value.bool b8), (Value.int .i64 (IntKind.wrap .i64 (n9 + (1 : Int))))] H7 < m8
    [(Value.bool b8), (Value.int .i64 n9)] H7))) ∧ ((decide (n9 < ((len18 : Nat) : Int))) = false → (((!b8) = true → R (Value.bool false) H7) ∧ ((!b8) = false → (((n7 == (0 : Int)) = true → (∃ n :
    Int, (Value.int .i64 (IntKind.wrap .i64 (n7 + (1 : Int)))) = Value.int .i64 n) ∧ I4 [(Value.int .i64 (IntKind.wrap .i64 (n7 + (1 : Int))))] H7 ∧ m4 [(Value.int .i64 (IntKind.wrap .i64 (n7 + (1 :
    Int))))] H7 < m4 [(Value.int .i64 n7)] H6) ∧ ((n7 == (0 : Int)) = false → ∃ ad58, (a15 = some ad58 ∧ 0 ≤ (IntKind.wrap .i64 (n7 - (1 : Int))) ∧ (IntKind.wrap .i64 (n7 - (1 : Int))) < ((len15 :
    Nat) : Int)) ∧ ∃ (l60 : List UInt8), cellAt H7 (Addr.add (Addr.add ad58 (Int.toNat (IntKind.wrap .i64 (n7 - (1 : Int))) * 27)) 0) = some (Value.string ⟨⟨l60⟩⟩) ∧ ∃ ad63, (a15 = some ad63 ∧ 0 ≤ n7
    ∧ n7 < ((len15 : Nat) : Int)) ∧ ∃ (l65 : List UInt8), cellAt H7 (Addr.add (Addr.add ad63 (Int.toNat n7 * 27)) 0) = some (Value.string ⟨⟨l65⟩⟩) ∧ CallsH Tryd.prog 27 ⟨[(Value.string ⟨⟨l60⟩⟩),
    (Value.string ⟨⟨l65⟩⟩)]⟩ H7 (fun r66 H9 => ∃ (n66 : Int), r66 = (Value.int .i64 n66) ∧ Ext H7 H9 ∧ ∃ ad70, (a15 = some ad70 ∧ 0 ≤ (IntKind.wrap .i64 (n7 - (1 : Int))) ∧ (IntKind.wrap .i64 (n7 - (1
    : Int))) < ((len15 : Nat) : Int)) ∧ ∃ (b72 : Bool), cellAt H9 (Addr.add (Addr.add ad70 (Int.toNat (IntKind.wrap .i64 (n7 - (1 : Int))) * 27)) 2) = some (Value.bool b72) ∧ ∃ ad76, (b72 = true →
    (a15 = some ad76 ∧ 0 ≤ n7 ∧ n7 < ((len15 : Nat) : Int))) ∧ ∃ (b78 : Bool), (b72 = true → cellAt H9 (Addr.add (Addr.add ad76 (Int.toNat n7 * 27)) 2) = some (Value.bool b78)) ∧ ∃ ad89, ((cond b72
    (cond (!b78) true (decide (n66 ≤ (0 : Int)))) false) = false → (a15 = some ad89 ∧ 0 ≤ (IntKind.wrap .i64 (n7 - (1 : Int))) ∧ (IntKind.wrap .i64 (n7 - (1 : Int))) < ((len15 : Nat) : Int))) ∧ ∃ (b91
    : Bool), ((cond b72 (cond (!b78) true (decide (n66 ≤ (0 : Int)))) false) = false → cellAt H9 (Addr.add (Addr.add ad89 (Int.toNat (IntKind.wrap .i64 (n7 - (1 : Int))) * 27)) 2) = some (Value.bool
    b91)) ∧ ∃ ad96, ((!b91) = true → ((cond b72 (cond (!b78) true (decide (n66 ≤ (0 : Int)))) false) = false → (a15 = some ad96 ∧ 0 ≤ n7 ∧ n7 < ((len15 : Nat) : Int)))) ∧ ∃ (b98 : Bool), ((!b91) =
    true → ((cond b72 (cond (!b78) true (decide (n66 ≤ (0 : Int)))) false) = false → cellAt H9 (Addr.add (Addr.add ad96 (Int.toNat n7 * 27)) 2) = some (Value.bool b98))) ∧ (((cond (cond b72 (cond
    (!b78) true (decide (n66 ≤ (0 : Int)))) false) true (cond (cond (!b91) (!b98) false) (decide (n66 ≥ (0 : Int))) false)) = true → R (Value.bool false) H9) ∧ ((cond (cond b72 (cond (!b78) true
    (decide (n66 ≤ (0 : Int)))) false) true (cond (cond (!b91) (!b98) false) (decide (n66 ≥ (0 : Int))) false)) = false → (∃ n : Int, (Value.int .i64 (IntKind.wrap .i64 (n7 + (1 : Int)))) = Value.int
    .i64 n) ∧ I4 [(Value.int .i64 (IntKind.wrap .i64 (n7 + (1 : Int))))] H9 ∧ m4 [(Value.int .i64 (IntKind.wrap .i64 (n7 + (1 : Int))))] H9 < m4 [(Value.int .i64 n7)] H6))))))))))) ∧ ((decide (n7 <
    ((len15 : Nat) : Int))) = false → CallsH Tryd.prog 13 ⟨[]⟩ H6 (fun r106 H10 => ∃ (b106 : Bool), r106 = (Value.bool b106) ∧ R (Value.bool b106) H10)))))))))
theorem caravanlaw20_QueueOrder.eq (aarg0 : Option Addr) (lenarg0 caparg0 : Nat) (aarg1 : Option Addr) (lenarg1 caparg1 : Nat) (R : Value → Heap → Prop) (H0 : Heap) : funcVC Tryd.prog tab fns [] [(4, [(7, 3)]), (8, [(8, 4), (9, 3)])] Tryd.f7 [(Value.slice aarg0 lenarg0 caparg0), (Value.slice aarg1 lenarg1 caparg1)] R H0 = caravanlaw20_QueueOrder.vc aarg0 lenarg0 caparg0 aarg1 lenarg1 caparg1 R H0 := by kernel_rfl
theorem caravanlaw20_QueueOrder.ok {aarg0 : Option Addr} {lenarg0 caparg0 : Nat} {aarg1 : Option Addr} {lenarg1 caparg1 : Nat} {R : Value → Heap → Prop} {H0 : Heap} (h : caravanlaw20_QueueOrder.vc aarg0 lenarg0 caparg0 aarg1 lenarg1 caparg1 R H0) : CallsH Tryd.prog 7 ⟨[(Value.slice aarg0 lenarg0 caparg0), (Value.slice aarg1 lenarg1 caparg1)]⟩ H0 R :=
  funcVC_sound tab_ok fns_ok mixed_ok Tryd.func7 (cast (caravanlaw20_QueueOrder.eq aarg0 lenarg0 caparg0 aarg1 lenarg1 caparg1 R H0).symm h)

/-- caravan/caravanlaw20.QueueEnds -/
def caravanlaw20_QueueEnds.vc (aarg0 : Option Addr) (lenarg0 caparg0 : Nat) (aarg1 : Option Addr) (lenarg1 caparg1 : Nat) (aarg2 : Option Addr) (lenarg2 caparg2 : Nat) (R : Value → Heap → Prop) (H0 : Heap) : Prop :=
  CallsH Tryd.prog 10 ⟨[(Value.slice aarg0 lenarg0 caparg0)]⟩ H0 (fun r17 H1 => ∃ (a17 : Option Addr) (len17 cap17 : Nat), r17 = (Value.slice a17 len17 cap17) ∧ CallsH Tryd.prog 16 ⟨[(Value.slice a17
    len17 cap17), (Value.slice none 0 0)]⟩ H1 (fun r18 H2 => ∃ (a18 : Option Addr) (len18 cap18 : Nat), r18 = (Value.slice a18 len18 cap18) ∧ CallsH Tryd.prog 10 ⟨[(Value.slice aarg1 lenarg1
    caparg1)]⟩ H2 (fun r20 H3 => ∃ (a20 : Option Addr) (len20 cap20 : Nat), r20 = (Value.slice a20 len20 cap20) ∧ CallsH Tryd.prog 16 ⟨[(Value.slice none 0 0), (Value.slice a20 len20 cap20)]⟩ H3 (fun
    r21 H4 => ∃ (a21 : Option Addr) (len21 cap21 : Nat), r21 = (Value.slice a21 len21 cap21) ∧ CallsH Tryd.prog 14 ⟨[(Value.slice a18 len18 cap18), (Value.slice a21 len21 cap21)]⟩ H4 (fun r24 H5 => ∃
    (a24 : Option Addr) (len24 cap24 : Nat), r24 = (Value.slice a24 len24 cap24) ∧ (((decide (((len24 : Nat) : Int) > (0 : Int))) = true → CallsH Tryd.prog 13 ⟨[]⟩ H5 (fun r27 H6 => ∃ (b27 : Bool),
    r27 = (Value.bool b27) ∧ R (Value.bool b27) H6)) ∧ ((decide (((len24 : Nat) : Int) > (0 : Int))) = false → CallsH Tryd.prog 16 ⟨[(Value.slice a18 len18 cap18), (Value.slice a21 len21 cap21)]⟩ H5
    (fun r30 H7 => ∃ (a30 : Option Addr) (len30 cap30 : Nat), r30 = (Value.slice a30 len30 cap30) ∧ ∃ (I8 : List Value → Heap → Prop) (m8 : List Value → Heap → Nat), ((∃ (a : Option Addr) (l c : Nat),
    (Value.slice a18 len18 cap18) = Value.slice a l c) ∧ (∃ (a : Option Addr) (l c : Nat), (Value.slice a21 len21 cap21) = Value.slice a l c) ∧ (∃ n : Int, (Value.int .i64 (0 : Int)) = Value.int .i64
    n) ∧ I8 [(Value.slice a18 len18 cap18), (Value.slice a21 len21 cap21), (Value.int .i64 (0 : Int))] H7) ∧ (∀ (a7 : Option Addr) (len7 cap7 : Nat) (a8 : Option Addr) (len8 cap8 : Nat) (n11 : Int), ∀
    H8, I8 [(Value.slice a7 len7 cap7), (Value.slice a8 len8 cap8), (Value.int .i64 n11)] H8 → (((decide (n11 < ((len18 : Nat) : Int))) = true → CallsH Tryd.prog 9 ⟨[(Value.slice a7 len7 cap7),
    (Value.slice a8 len8 cap8)]⟩ H8 (fun r40 H9 => ∃ (a40 : Option Addr) (len40 cap40 : Nat), r40 = (Value.slice a40 len40 cap40) ∧ (((((len40 : Nat) : Int) == (0 : Int)) = true → R (Value.bool false)
    H9) ∧ ((((len40 : Nat) : Int) == (0 : Int)) = false → CallsH Tryd.prog 23 ⟨[(Value.slice aarg2 lenarg2 caparg2), (Value.int .i64 n11), (Value.int .i64 ((len40 : Nat) : Int))]⟩ H9 (fun r49 H10 => ∃
    (n49 : Int), r49 = (Value.int .i64 n49) ∧ ∃ ad50, (a40 = some ad50 ∧ 0 ≤ n49 ∧ n49 < ((len40 : Nat) : Int)) ∧ ∃ cs51, RdN H10 (Addr.add ad50 (Int.toNat n49 * 27)) 27 cs51 ∧ ∀ g13 H11, NewB H10 35
    (zc 35) g13 H11 → ∃ H12, cs51.size = 27 ∧ wrN H11 ⟨g13, 0, none⟩ cs51.toList 0 = some H12 ∧ ∃ cs53, RdN H12 ⟨g13, 0, none⟩ 27 cs53 ∧ CallsH Tryd.prog 24 ⟨[(Value.slice a8 len8 cap8), (Value.agg
    cs53)]⟩ H12 (fun r54 H13 => ∃ (a54 : Option Addr) (len54 cap54 : Nat), r54 = (Value.slice a54 len54 cap54) ∧ ∃ (l57 : List UInt8), cellAt H13 (Addr.add ⟨g13, 0, none⟩ 0) = some (Value.string
    ⟨⟨l57⟩⟩) ∧ CallsH Tryd.prog 25 ⟨[(Value.slice a7 len7 cap7), (Value.string ⟨⟨l57⟩⟩)]⟩ H13 (fun r58 H14 => ∃ (a58 : Option Addr) (len58 cap58 : Nat), r58 = (Value.slice a58 len58 cap58) ∧
    (((((len58 : Nat) : Int) != (IntKind.wrap .i64 ((IntKind.wrap .i64 (((len18 : Nat) : Int) - n11)) - (1 : Int)))) = true → R (Value.bool false) H14) ∧ ((((len58 : Nat) : Int) != (IntKind.wrap .i64
    ((IntKind.wrap .i64 (((len18 : Nat) : Int) - n11)) - (1 : Int)))) = false → (∃ (a : Option Addr) (l c : Nat), (Value.slice a58 len58 cap58) = Value.slice a l c) ∧ (∃ (a : Option Addr) (l c : Nat),
    (Value.slice a54 len54 cap54) = Value.slice a l c) ∧ (∃ n : Int, (Value.int .i64 (IntKind.wrap .i64 (n11 + (1 : Int)))) = Value.int .i64 n) ∧ I8 [(Value.slice a58 len58 cap58), (Value.slice a54
    len54 cap54), (Value.int .i64 (IntKind.wrap .i64 (n11 + (1 : Int))))] H14 ∧ m8 [(Value.slice a58 len58 cap58), (Value.slice a54 len54 cap54), (Value.int .i64 (IntKind.wrap .i64 (n11 + (1 :
    Int))))] H14 < m8 [(Value.slice a7 len7 cap7), (Value.slice a8 len8 cap8), (Value.int .i64 n11)] H8))))))))) ∧ ((decide (n11 < ((len18 : Nat) : Int))) = false → CallsH Tryd.prog 16 ⟨[(Value.slice
    none 0 0), (Value.slice a8 len8 cap8)]⟩ H8 (fun r67 H15 => ∃ (a67 : Option Addr) (len67 cap67 : Nat), r67 = (Value.slice a67 len67 cap67) ∧ (((((len7 : Nat) : Int) != (0 : Int)) = true → R
    (Value.bool false) H15) ∧ ((((len7 : Nat) : Int) != (0 : Int)) = false → CallsH Tryd.prog 9 ⟨[(Value.slice a7 len7 cap7), (Value.slice a8 len8 cap8)]⟩ H15 (fun r74 H16 => ∃ (a74 : Option Addr)
    (len74 cap74 : Nat), r74 = (Value.slice a74 len74 cap74) ∧ (((cond (((len74 : Nat) : Int) != (0 : Int)) true (((len67 : Nat) : Int) != ((len30 : Nat) : Int))) = true → R (Value.bool false) H16) ∧
    ((cond (((len74 : Nat) : Int) != (0 : Int)) true (((len67 : Nat) : Int) != ((len30 : Nat) : Int))) = false → ∃ (I22 : List Value → Heap → Prop) (m22 : List Value → Heap → Nat), ((∃ n : Int,
    (Value.int .i64 (0 : Int)) = Value.int .i64 n) ∧ I22 [(Value.int .i64 (0 : Int))] H16) ∧ (∀ (n15 : Int), ∀ H17, I22 [(Value.int .i64 n15)] H17 → (((decide (n15 < ((len67 : Nat) : Int))) = true → ∃
    ad93, (a67 = some ad93 ∧ 0 ≤ n15 ∧ n15 < ((len67 : Nat) : Int)) ∧ ∃ cs94, RdN H17 (Addr.add ad93 (Int.toNat n15 * 27)) 27 cs94 ∧ ∃ ad97, (a30 = some ad97 ∧ 0 ≤ n15 ∧ n15 < ((len30 : Nat) : Int)) ∧
    ∃ cs98, RdN H17 (Addr.add ad97 (Int.toNat n15 * 27)) 27 cs98 ∧ CallsH Tryd.prog 26 ⟨[(Value.agg cs94), (Value.agg cs98)]⟩ H17 (fun r99 H18 => ∃ (b99 : Bool), r99 = (Value.bool b99) ∧ Ext H17 H18 ∧
    (((!b99) = true → R (Value.bool false) H18) ∧ ((!b99) = false → (∃ n : Int, (Value.int .i64 (IntKind.wrap .i64 (n15 + (1 : Int)))) = Value.int .i64 n) ∧ I22 [(Value.int .i64 (IntKind.wrap .i64
    (n15 + (1 : Int))))] H18 ∧ m22 [(Value.int .i64 (IntKind.wrap .i64 (n15 + (1 : Int))))] H18 < m22 [(Value.int .i64 n15)] H17)))) ∧ ((decide (n15 < ((len67 : Nat) : Int))) = false → CallsH
    Tryd.prog 13 ⟨[]⟩ H17 (fun r101 H19 => ∃ (b101 : Bool), r101 = (Value.bool b101) ∧ R (Value.bool b101) H19)))))))))))))))))))))
theorem caravanlaw20_QueueEnds.eq (aarg0 : Option Addr) (lenarg0 caparg0 : Nat) (aarg1 : Option Addr) (lenarg1 caparg1 : Nat) (aarg2 : Option Addr) (lenarg2 caparg2 : Nat) (R : Value → Heap → Prop) (H0 : Heap) : funcVC Tryd.prog tab fns [] [(8, [(7, 22), (8, 22), (11, 3)]), (22, [(15, 3)])] Tryd.f8 [(Value.slice aarg0 lenarg0 caparg0), (Value.slice aarg1 lenarg1 caparg1), (Value.slice aarg2 lenarg2 caparg2)] R H0 = caravanlaw20_QueueEnds.vc aarg0 lenarg0 caparg0 aarg1 lenarg1 caparg1 aarg2 lenarg2 caparg2 R H0 := by kernel_rfl
theorem caravanlaw20_QueueEnds.ok {aarg0 : Option Addr} {lenarg0 caparg0 : Nat} {aarg1 : Option Addr} {lenarg1 caparg1 : Nat} {aarg2 : Option Addr} {lenarg2 caparg2 : Nat} {R : Value → Heap → Prop} {H0 : Heap} (h : caravanlaw20_QueueEnds.vc aarg0 lenarg0 caparg0 aarg1 lenarg1 caparg1 aarg2 lenarg2 caparg2 R H0) : CallsH Tryd.prog 8 ⟨[(Value.slice aarg0 lenarg0 caparg0), (Value.slice aarg1 lenarg1 caparg1), (Value.slice aarg2 lenarg2 caparg2)]⟩ H0 R :=
  funcVC_sound tab_ok fns_ok mixed_ok Tryd.func8 (cast (caravanlaw20_QueueEnds.eq aarg0 lenarg0 caparg0 aarg1 lenarg1 caparg1 aarg2 lenarg2 caparg2 R H0).symm h)

/-- caravan/queue.Ready -/
def queue_Ready.vc (aarg0 : Option Addr) (lenarg0 caparg0 : Nat) (aarg1 : Option Addr) (lenarg1 caparg1 : Nat) (R : Value → Heap → Prop) (H0 : Heap) : Prop :=
  CallsH Tryd.prog 28 ⟨[(Value.slice aarg1 lenarg1 caparg1)]⟩ H0 (fun r12 H1 => ∃ (m12 : Option Nat), r12 = (Value.map m12) ∧ CallsH Tryd.prog 29 ⟨[(Value.map m12)]⟩ H1 (fun r14 H2 => ∃ (m14 : Option
    Nat), r14 = (Value.map m14) ∧ CallsH Tryd.prog 28 ⟨[(Value.slice aarg0 lenarg0 caparg0)]⟩ H2 (fun r16 H3 => ∃ (m16 : Option Nat), r16 = (Value.map m16) ∧ CallsH Tryd.prog 30 ⟨[(Value.map m16)]⟩ H3
    (fun r17 H4 => ∃ (a17 : Option Addr) (len17 cap17 : Nat), r17 = (Value.slice a17 len17 cap17) ∧ ∃ (I5 : List Value → Heap → Prop) (m5 : List Value → Heap → Nat), ((∃ (a : Option Addr) (l c : Nat),
    (Value.slice none 0 0) = Value.slice a l c) ∧ (∃ (a : Option Addr) (l c : Nat), (Value.slice none 0 0) = Value.slice a l c) ∧ (∃ n : Int, (Value.int .i64 (0 : Int)) = Value.int .i64 n) ∧ I5
    [(Value.slice none 0 0), (Value.slice none 0 0), (Value.int .i64 (0 : Int))] H4) ∧ (∀ (a7 : Option Addr) (len7 cap7 : Nat) (a8 : Option Addr) (len8 cap8 : Nat) (n19 : Int), ∀ H5, I5 [(Value.slice
    a7 len7 cap7), (Value.slice a8 len8 cap8), (Value.int .i64 n19)] H5 → (((decide (n19 < ((len17 : Nat) : Int))) = true → ∃ ad21, (a17 = some ad21 ∧ 0 ≤ n19 ∧ n19 < ((len17 : Nat) : Int)) ∧ ∃ cs22,
    RdN H5 (Addr.add ad21 (Int.toNat n19 * 27)) 27 cs22 ∧ ∀ g10 H6, NewB H5 35 (zc 35) g10 H6 → ∃ H7, cs22.size = 27 ∧ wrN H6 ⟨g10, 0, none⟩ cs22.toList 0 = some H7 ∧ ∃ cs28, RdN H7 ⟨g10, 0, none⟩ 27
    cs28 ∧ CallsH Tryd.prog 31 ⟨[(Value.agg cs28), (Value.map m12), (Value.map m14)]⟩ H7 (fun r31 H8 => ∃ (b31 : Bool), r31 = (Value.bool b31) ∧ (((!b31) = true → (∃ (a : Option Addr) (l c : Nat),
    (Value.slice a7 len7 cap7) = Value.slice a l c) ∧ (∃ (a : Option Addr) (l c : Nat), (Value.slice a8 len8 cap8) = Value.slice a l c) ∧ (∃ n : Int, (Value.int .i64 (IntKind.wrap .i64 (n19 + (1 :
    Int)))) = Value.int .i64 n) ∧ I5 [(Value.slice a7 len7 cap7), (Value.slice a8 len8 cap8), (Value.int .i64 (IntKind.wrap .i64 (n19 + (1 : Int))))] H8 ∧ m5 [(Value.slice a7 len7 cap7), (Value.slice
    a8 len8 cap8), (Value.int .i64 (IntKind.wrap .i64 (n19 + (1 : Int))))] H8 < m5 [(Value.slice a7 len7 cap7), (Value.slice a8 len8 cap8), (Value.int .i64 n19)] H5) ∧ ((!b31) = false → ∃ (b35 :
    Bool), cellAt H8 (Addr.add ⟨g10, 0, none⟩ 2) = some (Value.bool b35) ∧ ((b35 = true → ∃ cs37, RdN H8 ⟨g10, 0, none⟩ 27 cs37 ∧ SemH Tryd.prog (Instr.buildSlice 22 1 ⟨[(0, (Value.agg cs37))]⟩) H8
    (fun r38 H9 => ∃ (a38 : Option Addr) (len38 cap38 : Nat), r38 = (Value.slice a38 len38 cap38) ∧ SemH Tryd.prog (Builtin.append_ #[22, 22] 22 ⟨[(Value.slice a8 len8 cap8), (Value.slice a38 len38
    cap38)]⟩) H9 (fun r39 H10 => ∃ (a39 : Option Addr) (len39 cap39 : Nat), r39 = (Value.slice a39 len39 cap39) ∧ (∃ (a : Option Addr) (l c : Nat), (Value.slice a7 len7 cap7) = Value.slice a l c) ∧ (∃
    (a : Option Addr) (l c : Nat), (Value.slice a39 len39 cap39) = Value.slice a l c) ∧ (∃ n : Int, (Value.int .i64 (IntKind.wrap .i64 (n19 + (1 : Int)))) = Value.int .i64 n) ∧ I5 [(Value.slice a7
    len7 cap7), (Value.slice a39 len39 cap39), (Value.int .i64 (IntKind.wrap .i64 (n19 + (1 : Int))))] H10 ∧ m5 [(Value.slice a7 len7 cap7), (Value.slice a39 len39 cap39), (Value.int .i64
    (IntKind.wrap .i64 (n19 + (1 : Int))))] H10 < m5 [(Value.slice a7 len7 cap7), (Value.slice a8 len8 cap8), (Value.int .i64 n19)] H5))) ∧ (b35 = false → ∃ cs24, RdN H8 ⟨g10, 0, none⟩ 27 cs24 ∧ SemH
    Tryd.prog (Instr.buildSlice 22 1 ⟨[(0, (Value.agg cs24))]⟩) H8 (fun r25 H11 => ∃ (a25 : Option Addr) (len25 cap25 : Nat), r25 = (Value.slice a25 len25 cap25) ∧ SemH Tryd.prog (Builtin.append_
    #[22, 22] 22 ⟨[(Value.slice a7 len7 cap7), (Value.slice a25 len25 cap25)]⟩) H11 (fun r26 H12 => ∃ (a26 : Option Addr) (len26 cap26 : Nat), r26 = (Value.slice a26 len26 cap26) ∧ (∃ (a : Option
    Addr) (l c : Nat), (Value.slice a26 len26 cap26) = Value.slice a l c) ∧ (∃ (a : Option Addr) (l c : Nat), (Value.slice a8 len8 cap8) = Value.slice a l c) ∧ (∃ n : Int, (Value.int .i64
    (IntKind.wrap .i64 (n19 + (1 : Int)))) = Value.int .i64 n) ∧ I5 [(Value.slice a26 len26 cap26), (Value.slice a8 len8 cap8), (Value.int .i64 (IntKind.wrap .i64 (n19 + (1 : Int))))] H12 ∧ m5
    [(Value.slice a26 len26 cap26), (Value.slice a8 len8 cap8), (Value.int .i64 (IntKind.wrap .i64 (n19 + (1 : Int))))] H12 < m5 [(Value.slice a7 len7 cap7), (Value.slice a8 len8 cap8), (Value.int
    .i64 n19)] H5)))))))) ∧ ((decide (n19 < ((len17 : Nat) : Int))) = false → CallsH Tryd.prog 32 ⟨[(Value.slice a8 len8 cap8)]⟩ H5 (fun r42 H13 => r42 = (Value.tuple ⟨[]⟩) ∧ SemH Tryd.prog
    (Builtin.append_ #[22, 22] 22 ⟨[(Value.slice a7 len7 cap7), (Value.slice a8 len8 cap8)]⟩) H13 (fun r45 H14 => ∃ (a45 : Option Addr) (len45 cap45 : Nat), r45 = (Value.slice a45 len45 cap45) ∧ R
    (Value.slice a45 len45 cap45) H14)))))))))
theorem queue_Ready.eq (aarg0 : Option Addr) (lenarg0 caparg0 : Nat) (aarg1 : Option Addr) (lenarg1 caparg1 : Nat) (R : Value → Heap → Prop) (H0 : Heap) : funcVC Tryd.prog tab fns [] [(5, [(7, 22), (8, 22), (19, 3)])] Tryd.f9 [(Value.slice aarg0 lenarg0 caparg0), (Value.slice aarg1 lenarg1 caparg1)] R H0 = queue_Ready.vc aarg0 lenarg0 caparg0 aarg1 lenarg1 caparg1 R H0 := by kernel_rfl
theorem queue_Ready.ok {aarg0 : Option Addr} {lenarg0 caparg0 : Nat} {aarg1 : Option Addr} {lenarg1 caparg1 : Nat} {R : Value → Heap → Prop} {H0 : Heap} (h : queue_Ready.vc aarg0 lenarg0 caparg0 aarg1 lenarg1 caparg1 R H0) : CallsH Tryd.prog 9 ⟨[(Value.slice aarg0 lenarg0 caparg0), (Value.slice aarg1 lenarg1 caparg1)]⟩ H0 R :=
  funcVC_sound tab_ok fns_ok mixed_ok Tryd.func9 (cast (queue_Ready.eq aarg0 lenarg0 caparg0 aarg1 lenarg1 caparg1 R H0).symm h)

/-- caravan/caravanlaw20.few -/
def caravanlaw20_few.vc (aarg0 : Option Addr) (lenarg0 _caparg0 : Nat) (R : Value → Heap → Prop) (H0 : Heap) : Prop :=
  ∃ (I3 : List Value → Heap → Prop) (m3 : List Value → Heap → Nat), ((∃ (a : Option Addr) (l c : Nat), (Value.slice none 0 0) = Value.slice a l c) ∧ (∃ n : Int, (Value.int .i64 (0 : Int)) = Value.int
    .i64 n) ∧ I3 [(Value.slice none 0 0), (Value.int .i64 (0 : Int))] H0) ∧ (∀ (a3 : Option Addr) (len3 cap3 : Nat) (n4 : Int), ∀ H1, I3 [(Value.slice a3 len3 cap3), (Value.int .i64 n4)] H1 → (((cond
    (decide (n4 < ((lenarg0 : Nat) : Int))) (decide (n4 < (40 : Int))) false) = true → ∃ ad18, (aarg0 = some ad18 ∧ 0 ≤ n4 ∧ n4 < ((lenarg0 : Nat) : Int)) ∧ ∃ (l20 : List UInt8), cellAt H1 (Addr.add
    (Addr.add ad18 (Int.toNat n4 * 27)) 0) = some (Value.string ⟨⟨l20⟩⟩) ∧ ∃ ad23, (aarg0 = some ad23 ∧ 0 ≤ n4 ∧ n4 < ((lenarg0 : Nat) : Int)) ∧ ∃ (l25 : List UInt8), cellAt H1 (Addr.add (Addr.add
    ad23 (Int.toNat n4 * 27)) 0) = some (Value.string ⟨⟨l25⟩⟩) ∧ (0 ≤ (if (400 : Int) < ((List.length l25 : Nat) : Int) then (400 : Int) else ((List.length l25 : Nat) : Int)) ∧ (if (400 : Int) <
    ((List.length l25 : Nat) : Int) then (400 : Int) else ((List.length l25 : Nat) : Int)) ≤ ((List.length l20 : Nat) : Int)) ∧ ∃ ad31, (aarg0 = some ad31 ∧ 0 ≤ n4 ∧ n4 < ((lenarg0 : Nat) : Int)) ∧ ∃
    (n33 : Int), cellAt H1 (Addr.add (Addr.add ad31 (Int.toNat n4 * 27)) 1) = some (Value.int .i64 n33) ∧ ∃ ad36, (aarg0 = some ad36 ∧ 0 ≤ n4 ∧ n4 < ((lenarg0 : Nat) : Int)) ∧ ∃ (b38 : Bool), cellAt
    H1 (Addr.add (Addr.add ad36 (Int.toNat n4 * 27)) 2) = some (Value.bool b38) ∧ ∃ ad41, (aarg0 = some ad41 ∧ 0 ≤ n4 ∧ n4 < ((lenarg0 : Nat) : Int)) ∧ ∃ (n43 : Int), cellAt H1 (Addr.add (Addr.add
    ad41 (Int.toNat n4 * 27)) 5) = some (Value.int .i64 n43) ∧ ∃ (cs44 : Array Value), PureV Tryd.prog (Instr.build 35 ⟨[(0, (Value.string ⟨⟨List.take ((Int.toNat (if (400 : Int) < ((List.length l25 :
    Nat) : Int) then (400 : Int) else ((List.length l25 : Nat) : Int))) - 0) (List.drop 0 l20)⟩⟩)), (1, (Value.int .i64 n33)), (2, (Value.bool b38)), (5, (Value.int .i64 n43))]⟩) (Value.agg cs44) ∧
    SemH Tryd.prog (Instr.buildSlice 22 1 ⟨[(0, (Value.agg cs44))]⟩) H1 (fun r45 H2 => ∃ (a45 : Option Addr) (len45 cap45 : Nat), r45 = (Value.slice a45 len45 cap45) ∧ Ext H1 H2 ∧ SemH Tryd.prog
    (Builtin.append_ #[22, 22] 22 ⟨[(Value.slice a3 len3 cap3), (Value.slice a45 len45 cap45)]⟩) H2 (fun r46 H3 => ∃ (a46 : Option Addr) (len46 cap46 : Nat), r46 = (Value.slice a46 len46 cap46) ∧ (∃
    (a : Option Addr) (l c : Nat), (Value.slice a46 len46 cap46) = Value.slice a l c) ∧ (∃ n : Int, (Value.int .i64 (IntKind.wrap .i64 (n4 + (1 : Int)))) = Value.int .i64 n) ∧ I3 [(Value.slice a46
    len46 cap46), (Value.int .i64 (IntKind.wrap .i64 (n4 + (1 : Int))))] H3 ∧ m3 [(Value.slice a46 len46 cap46), (Value.int .i64 (IntKind.wrap .i64 (n4 + (1 : Int))))] H3 < m3 [(Value.slice a3 len3
    cap3), (Value.int .i64 n4)] H1))) ∧ ((cond (decide (n4 < ((lenarg0 : Nat) : Int))) (decide (n4 < (40 : Int))) false) = false → R (Value.slice a3 len3 cap3) H1)))
theorem caravanlaw20_few.eq (aarg0 : Option Addr) (lenarg0 caparg0 : Nat) (R : Value → Heap → Prop) (H0 : Heap) : funcVC Tryd.prog tab fns [] [(3, [(3, 22), (4, 3)])] Tryd.f10 [(Value.slice aarg0 lenarg0 caparg0)] R H0 = caravanlaw20_few.vc aarg0 lenarg0 caparg0 R H0 := by kernel_rfl
theorem caravanlaw20_few.ok {aarg0 : Option Addr} {lenarg0 caparg0 : Nat} {R : Value → Heap → Prop} {H0 : Heap} (h : caravanlaw20_few.vc aarg0 lenarg0 caparg0 R H0) : CallsH Tryd.prog 10 ⟨[(Value.slice aarg0 lenarg0 caparg0)]⟩ H0 R :=
  funcVC_sound tab_ok fns_ok mixed_ok Tryd.func10 (cast (caravanlaw20_few.eq aarg0 lenarg0 caparg0 R H0).symm h)

/-- caravan/caravanref20.Ready -/
def caravanref20_Ready.vc (aarg0 : Option Addr) (lenarg0 caparg0 : Nat) (aarg1 : Option Addr) (lenarg1 caparg1 : Nat) (R : Value → Heap → Prop) (H0 : Heap) : Prop :=
  CallsH Tryd.prog 33 ⟨[(Value.slice aarg0 lenarg0 caparg0)]⟩ H0 (fun r11 H1 => ∃ (a11 : Option Addr) (len11 cap11 : Nat), r11 = (Value.slice a11 len11 cap11) ∧ CallsH Tryd.prog 33 ⟨[(Value.slice aarg1
    lenarg1 caparg1)]⟩ H1 (fun r13 H2 => ∃ (a13 : Option Addr) (len13 cap13 : Nat), r13 = (Value.slice a13 len13 cap13) ∧ ∃ (I5 : List Value → Heap → Prop) (m5 : List Value → Heap → Nat), ((∃ (a :
    Option Addr) (l c : Nat), (Value.slice none 0 0) = Value.slice a l c) ∧ (∃ n : Int, (Value.int .i64 (0 : Int)) = Value.int .i64 n) ∧ I5 [(Value.slice none 0 0), (Value.int .i64 (0 : Int))] H2) ∧
    (∀ (a7 : Option Addr) (len7 cap7 : Nat) (n8 : Int), ∀ H3, I5 [(Value.slice a7 len7 cap7), (Value.int .i64 n8)] H3 → (((decide (n8 < ((len11 : Nat) : Int))) = true → ∃ ad22, (a11 = some ad22 ∧ 0 ≤
    n8 ∧ n8 < ((len11 : Nat) : Int)) ∧ ∃ (b24 : Bool), cellAt H3 (Addr.add (Addr.add ad22 (Int.toNat n8 * 27)) 2) = some (Value.bool b24) ∧ ∃ ad29, ((!b24) = true → (a11 = some ad29 ∧ 0 ≤ n8 ∧ n8 <
    ((len11 : Nat) : Int))) ∧ ∃ cs30, ((!b24) = true → RdN H3 (Addr.add ad29 (Int.toNat n8 * 27)) 27 cs30) ∧ (((!b24) = true → CallsH Tryd.prog 34 ⟨[(Value.agg cs30), (Value.slice a13 len13 cap13)]⟩
    H3 (fun r32 H4 => ∃ (b32 : Bool), r32 = (Value.bool b32) ∧ ((b32 = true → ∃ ad37, (a11 = some ad37 ∧ 0 ≤ n8 ∧ n8 < ((len11 : Nat) : Int)) ∧ ∃ cs38, RdN H4 (Addr.add ad37 (Int.toNat n8 * 27)) 27
    cs38 ∧ SemH Tryd.prog (Instr.buildSlice 22 1 ⟨[(0, (Value.agg cs38))]⟩) H4 (fun r39 H5 => ∃ (a39 : Option Addr) (len39 cap39 : Nat), r39 = (Value.slice a39 len39 cap39) ∧ SemH Tryd.prog
    (Builtin.append_ #[22, 22] 22 ⟨[(Value.slice a7 len7 cap7), (Value.slice a39 len39 cap39)]⟩) H5 (fun r40 H6 => ∃ (a40 : Option Addr) (len40 cap40 : Nat), r40 = (Value.slice a40 len40 cap40) ∧ (∃
    (a : Option Addr) (l c : Nat), (Value.slice a40 len40 cap40) = Value.slice a l c) ∧ (∃ n : Int, (Value.int .i64 (IntKind.wrap .i64 (n8 + (1 : Int)))) = Value.int .i64 n) ∧ I5 [(Value.slice a40
    len40 cap40), (Value.int .i64 (IntKind.wrap .i64 (n8 + (1 : Int))))] H6 ∧ m5 [(Value.slice a40 len40 cap40), (Value.int .i64 (IntKind.wrap .i64 (n8 + (1 : Int))))] H6 < m5 [(Value.slice a7 len7
    cap7), (Value.int .i64 n8)] H3))) ∧ (b32 = false → (∃ (a : Option Addr) (l c : Nat), (Value.slice a7 len7 cap7) = Value.slice a l c) ∧ (∃ n : Int, (Value.int .i64 (IntKind.wrap .i64 (n8 + (1 :
    Int)))) = Value.int .i64 n) ∧ I5 [(Value.slice a7 len7 cap7), (Value.int .i64 (IntKind.wrap .i64 (n8 + (1 : Int))))] H4 ∧ m5 [(Value.slice a7 len7 cap7), (Value.int .i64 (IntKind.wrap .i64 (n8 +
    (1 : Int))))] H4 < m5 [(Value.slice a7 len7 cap7), (Value.int .i64 n8)] H3)))) ∧ ((!b24) = false → (∃ (a : Option Addr) (l c : Nat), (Value.slice a7 len7 cap7) = Value.slice a l c) ∧ (∃ n : Int,
    (Value.int .i64 (IntKind.wrap .i64 (n8 + (1 : Int)))) = Value.int .i64 n) ∧ I5 [(Value.slice a7 len7 cap7), (Value.int .i64 (IntKind.wrap .i64 (n8 + (1 : Int))))] H3 ∧ m5 [(Value.slice a7 len7
    cap7), (Value.int .i64 (IntKind.wrap .i64 (n8 + (1 : Int))))] H3 < m5 [(Value.slice a7 len7 cap7), (Value.int .i64 n8)] H3))) ∧ ((decide (n8 < ((len11 : Nat) : Int))) = false → ∃ (I10 : List Value
    → Heap → Prop) (m10 : List Value → Heap → Nat), ((∃ (a : Option Addr) (l c : Nat), (Value.slice a7 len7 cap7) = Value.slice a l c) ∧ (∃ n : Int, (Value.int .i64 (IntKind.wrap .i64 (((len11 : Nat)
    : Int) - (1 : Int)))) = Value.int .i64 n) ∧ I10 [(Value.slice a7 len7 cap7), (Value.int .i64 (IntKind.wrap .i64 (((len11 : Nat) : Int) - (1 : Int))))] H3) ∧ (∀ (a7_1 : Option Addr) (len7_1 cap7_1
    : Nat) (n9 : Int), ∀ H7, I10 [(Value.slice a7_1 len7_1 cap7_1), (Value.int .i64 n9)] H7 → (((decide (n9 ≥ (0 : Int))) = true → ∃ ad50, (a11 = some ad50 ∧ 0 ≤ n9 ∧ n9 < ((len11 : Nat) : Int)) ∧ ∃
    (b52 : Bool), cellAt H7 (Addr.add (Addr.add ad50 (Int.toNat n9 * 27)) 2) = some (Value.bool b52) ∧ ∃ ad56, (b52 = true → (a11 = some ad56 ∧ 0 ≤ n9 ∧ n9 < ((len11 : Nat) : Int))) ∧ ∃ cs57, (b52 =
    true → RdN H7 (Addr.add ad56 (Int.toNat n9 * 27)) 27 cs57) ∧ ((b52 = true → CallsH Tryd.prog 34 ⟨[(Value.agg cs57), (Value.slice a13 len13 cap13)]⟩ H7 (fun r59 H8 => ∃ (b59 : Bool), r59 =
    (Value.bool b59) ∧ ((b59 = true → ∃ ad64, (a11 = some ad64 ∧ 0 ≤ n9 ∧ n9 < ((len11 : Nat) : Int)) ∧ ∃ cs65, RdN H8 (Addr.add ad64 (Int.toNat n9 * 27)) 27 cs65 ∧ SemH Tryd.prog (Instr.buildSlice 22
    1 ⟨[(0, (Value.agg cs65))]⟩) H8 (fun r66 H9 => ∃ (a66 : Option Addr) (len66 cap66 : Nat), r66 = (Value.slice a66 len66 cap66) ∧ SemH Tryd.prog (Builtin.append_ #[22, 22] 22 ⟨[(Value.slice a7_1
    len7_1 cap7_1), (Value.slice a66 len66 cap66)]⟩) H9 (fun r67 H10 => ∃ (a67 : Option Addr) (len67 cap67 : Nat), r67 = (Value.slice a67 len67 cap67) ∧ (∃ (a : Option Addr) (l c : Nat), (Value.slice
    a67 len67 cap67) = Value.slice a l c) ∧ (∃ n : Int, (Value.int .i64 (IntKind.wrap .i64 (n9 - (1 : Int)))) = Value.int .i64 n) ∧ I10 [(Value.slice a67 len67 cap67), (Value.int .i64 (IntKind.wrap
    .i64 (n9 - (1 : Int))))] H10 ∧ m10 [(Value.slice a67 len67 cap67), (Value.int .i64 (IntKind.wrap .i64 (n9 - (1 : Int))))] H10 < m10 [(Value.slice a7_1 len7_1 cap7_1), (Value.int .i64 n9)] H7))) ∧
    (b59 = false → (∃ (a : Option Addr) (l c : Nat), (Value.slice a7_1 len7_1 cap7_1) = Value.slice a l c) ∧ (∃ n : Int, (Value.int .i64 (IntKind.wrap .i64 (n9 - (1 : Int)))) = Value.int .i64 n) ∧ I10
    [(Value.slice a7_1 len7_1 cap7_1), (Value.int .i64 (IntKind.wrap .i64 (n9 - (1 : Int))))] H8 ∧ m10 [(Value.slice a7_1 len7_1 cap7_1), (Value.int .i64 (IntKind.wrap .i64 (n9 - (1 : Int))))] H8 <
    m10 [(Value.slice a7_1 len7_1 cap7_1), (Value.int .i64 n9)] H7)))) ∧ (b52 = false → (∃ (a : Option Addr) (l c : Nat), (Value.slice a7_1 len7_1 cap7_1) = Value.slice a l c) ∧ (∃ n : Int, (Value.int
    .i64 (IntKind.wrap .i64 (n9 - (1 : Int)))) = Value.int .i64 n) ∧ I10 [(Value.slice a7_1 len7_1 cap7_1), (Value.int .i64 (IntKind.wrap .i64 (n9 - (1 : Int))))] H7 ∧ m10 [(Value.slice a7_1 len7_1
    cap7_1), (Value.int .i64 (IntKind.wrap .i64 (n9 - (1 : Int))))] H7 < m10 [(Value.slice a7_1 len7_1 cap7_1), (Value.int .i64 n9)] H7))) ∧ ((decide (n9 ≥ (0 : Int))) = false → R (Value.slice a7_1
    len7_1 cap7_1) H7))))))))
theorem caravanref20_Ready.eq (aarg0 : Option Addr) (lenarg0 caparg0 : Nat) (aarg1 : Option Addr) (lenarg1 caparg1 : Nat) (R : Value → Heap → Prop) (H0 : Heap) : funcVC Tryd.prog tab fns [] [(5, [(7, 22), (8, 3)]), (10, [(7, 22), (9, 3)])] Tryd.f11 [(Value.slice aarg0 lenarg0 caparg0), (Value.slice aarg1 lenarg1 caparg1)] R H0 = caravanref20_Ready.vc aarg0 lenarg0 caparg0 aarg1 lenarg1 caparg1 R H0 := by kernel_rfl
theorem caravanref20_Ready.ok {aarg0 : Option Addr} {lenarg0 caparg0 : Nat} {aarg1 : Option Addr} {lenarg1 caparg1 : Nat} {R : Value → Heap → Prop} {H0 : Heap} (h : caravanref20_Ready.vc aarg0 lenarg0 caparg0 aarg1 lenarg1 caparg1 R H0) : CallsH Tryd.prog 11 ⟨[(Value.slice aarg0 lenarg0 caparg0), (Value.slice aarg1 lenarg1 caparg1)]⟩ H0 R :=
  funcVC_sound tab_ok fns_ok mixed_ok Tryd.func11 (cast (caravanref20_Ready.eq aarg0 lenarg0 caparg0 aarg1 lenarg1 caparg1 R H0).symm h)

/-- caravan/caravanref06.List -/
def caravanref06_List.vc (aarg0 : Option Addr) (lenarg0 _caparg0 : Nat) (aarg1 : Option Addr) (lenarg1 _caparg1 : Nat) (R : Value → Heap → Prop) (H0 : Heap) : Prop :=
  (((((lenarg0 : Nat) : Int) != ((lenarg1 : Nat) : Int)) = true → R (Value.bool false) H0) ∧ ((((lenarg0 : Nat) : Int) != ((lenarg1 : Nat) : Int)) = false → ∃ (I4 : List Value → Heap → Prop) (m4 : List
    Value → Heap → Nat), ((∃ n : Int, (Value.int .i64 (0 : Int)) = Value.int .i64 n) ∧ I4 [(Value.int .i64 (0 : Int))] H0) ∧ (∀ (n5 : Int), ∀ H1, I4 [(Value.int .i64 n5)] H1 → (((decide (n5 <
    ((lenarg0 : Nat) : Int))) = true → ∃ ad19, (aarg0 = some ad19 ∧ 0 ≤ n5 ∧ n5 < ((lenarg0 : Nat) : Int)) ∧ ∃ cs20, RdN H1 (Addr.add ad19 (Int.toNat n5 * 27)) 27 cs20 ∧ ∃ ad23, (aarg1 = some ad23 ∧ 0
    ≤ n5 ∧ n5 < ((lenarg1 : Nat) : Int)) ∧ ∃ cs24, RdN H1 (Addr.add ad23 (Int.toNat n5 * 27)) 27 cs24 ∧ CallsH Tryd.prog 35 ⟨[(Value.agg cs20), (Value.agg cs24)]⟩ H1 (fun r25 H2 => ∃ (b25 : Bool), r25
    = (Value.bool b25) ∧ Ext H1 H2 ∧ (((!b25) = true → R (Value.bool false) H2) ∧ ((!b25) = false → (∃ n : Int, (Value.int .i64 (IntKind.wrap .i64 (n5 + (1 : Int)))) = Value.int .i64 n) ∧ I4
    [(Value.int .i64 (IntKind.wrap .i64 (n5 + (1 : Int))))] H2 ∧ m4 [(Value.int .i64 (IntKind.wrap .i64 (n5 + (1 : Int))))] H2 < m4 [(Value.int .i64 n5)] H1)))) ∧ ((decide (n5 < ((lenarg0 : Nat) :
    Int))) = false → R (Value.bool true) H1)))))
theorem caravanref06_List.eq (aarg0 : Option Addr) (lenarg0 caparg0 : Nat) (aarg1 : Option Addr) (lenarg1 caparg1 : Nat) (R : Value → Heap → Prop) (H0 : Heap) : funcVC Tryd.prog tab fns [] [(4, [(5, 3)])] Tryd.f12 [(Value.slice aarg0 lenarg0 caparg0), (Value.slice aarg1 lenarg1 caparg1)] R H0 = caravanref06_List.vc aarg0 lenarg0 caparg0 aarg1 lenarg1 caparg1 R H0 := by kernel_rfl
theorem caravanref06_List.ok {aarg0 : Option Addr} {lenarg0 caparg0 : Nat} {aarg1 : Option Addr} {lenarg1 caparg1 : Nat} {R : Value → Heap → Prop} {H0 : Heap} (h : caravanref06_List.vc aarg0 lenarg0 caparg0 aarg1 lenarg1 caparg1 R H0) : CallsH Tryd.prog 12 ⟨[(Value.slice aarg0 lenarg0 caparg0), (Value.slice aarg1 lenarg1 caparg1)]⟩ H0 R :=
  funcVC_sound tab_ok fns_ok mixed_ok Tryd.func12 (cast (caravanref06_List.eq aarg0 lenarg0 caparg0 aarg1 lenarg1 caparg1 R H0).symm h)

/-- caravan/caravanlaw20.works -/
def caravanlaw20_works.vc  (R : Value → Heap → Prop) (H0 : Heap) : Prop :=
  ∃ (cs4 : Array Value), PureV Tryd.prog (Instr.build 35 ⟨[(0, (Value.string ⟨⟨[97]⟩⟩)), (1, (Value.int .i64 (2 : Int))), (2, (Value.bool true))]⟩) (Value.agg cs4) ∧ ∃ (cs5 : Array Value), PureV
    Tryd.prog (Instr.build 35 ⟨[(0, (Value.string ⟨⟨[97, 47, 98]⟩⟩)), (1, (Value.int .i64 (1 : Int))), (2, (Value.bool true))]⟩) (Value.agg cs5) ∧ SemH Tryd.prog (Instr.buildSlice 22 2 ⟨[(0,
    (Value.agg cs4)), (1, (Value.agg cs5))]⟩) H0 (fun r6 H1 => ∃ (a6 : Option Addr) (len6 cap6 : Nat), r6 = (Value.slice a6 len6 cap6) ∧ ∃ (cs7 : Array Value), PureV Tryd.prog (Instr.build 35 ⟨[(0,
    (Value.string ⟨⟨[97]⟩⟩)), (1, (Value.int .i64 (2 : Int)))]⟩) (Value.agg cs7) ∧ ∃ (cs8 : Array Value), PureV Tryd.prog (Instr.build 35 ⟨[(0, (Value.string ⟨⟨[97, 47, 98]⟩⟩)), (1, (Value.int .i64 (1
    : Int)))]⟩) (Value.agg cs8) ∧ SemH Tryd.prog (Instr.buildSlice 22 2 ⟨[(0, (Value.agg cs7)), (1, (Value.agg cs8))]⟩) H1 (fun r9 H2 => ∃ (a9 : Option Addr) (len9 cap9 : Nat), r9 = (Value.slice a9
    len9 cap9) ∧ CallsH Tryd.prog 9 ⟨[(Value.slice a6 len6 cap6), (Value.slice a9 len9 cap9)]⟩ H2 (fun r12 H3 => ∃ (a12 : Option Addr) (len12 cap12 : Nat), r12 = (Value.slice a12 len12 cap12) ∧ ∃
    ad18, ((((len12 : Nat) : Int) == (1 : Int)) = true → (a12 = some ad18 ∧ 0 ≤ (0 : Int) ∧ (0 : Int) < ((len12 : Nat) : Int))) ∧ ∃ (l20 : List UInt8), ((((len12 : Nat) : Int) == (1 : Int)) = true →
    cellAt H3 (Addr.add (Addr.add ad18 (Int.toNat (0 : Int) * 27)) 0) = some (Value.string ⟨⟨l20⟩⟩)) ∧ (((cond (((len12 : Nat) : Int) == (1 : Int)) (l20 == [97, 47, 98]) false) = true → CallsH
    Tryd.prog 16 ⟨[(Value.slice a6 len6 cap6), (Value.slice a9 len9 cap9)]⟩ H3 (fun r26 H4 => ∃ (a26 : Option Addr) (len26 cap26 : Nat), r26 = (Value.slice a26 len26 cap26) ∧ R (Value.bool (((len26 :
    Nat) : Int) == (2 : Int))) H4)) ∧ ((cond (((len12 : Nat) : Int) == (1 : Int)) (l20 == [97, 47, 98]) false) = false → R (Value.bool false) H3)))))
theorem caravanlaw20_works.eq  (R : Value → Heap → Prop) (H0 : Heap) : funcVC Tryd.prog tab fns [] [] Tryd.f13 [] R H0 = caravanlaw20_works.vc  R H0 := by kernel_rfl
theorem caravanlaw20_works.ok  {R : Value → Heap → Prop} {H0 : Heap} (h : caravanlaw20_works.vc  R H0) : CallsH Tryd.prog 13 ⟨[]⟩ H0 R :=
  funcVC_sound tab_ok fns_ok mixed_ok Tryd.func13 (cast (caravanlaw20_works.eq  R H0).symm h)

/-- caravan/queue.Blocked -/
def queue_Blocked.vc (aarg0 : Option Addr) (lenarg0 caparg0 : Nat) (aarg1 : Option Addr) (lenarg1 caparg1 : Nat) (R : Value → Heap → Prop) (H0 : Heap) : Prop :=
  CallsH Tryd.prog 36 ⟨[(Value.slice aarg0 lenarg0 caparg0), (Value.slice aarg1 lenarg1 caparg1)]⟩ H0 (fun r12 H1 => ∃ (m12 : Option Nat), r12 = (Value.map m12) ∧ CallsH Tryd.prog 29 ⟨[(Value.map m12)]⟩
    H1 (fun r14 H2 => ∃ (m14 : Option Nat), r14 = (Value.map m14) ∧ CallsH Tryd.prog 30 ⟨[(Value.map m12)]⟩ H2 (fun r16 H3 => ∃ (a16 : Option Addr) (len16 cap16 : Nat), r16 = (Value.slice a16 len16
    cap16) ∧ ∃ (I5 : List Value → Heap → Prop) (m5 : List Value → Heap → Nat), ((∃ (a : Option Addr) (l c : Nat), (Value.slice none 0 0) = Value.slice a l c) ∧ (∃ n : Int, (Value.int .i64 (0 : Int)) =
    Value.int .i64 n) ∧ I5 [(Value.slice none 0 0), (Value.int .i64 (0 : Int))] H3) ∧ (∀ (a7 : Option Addr) (len7 cap7 : Nat) (n18 : Int), ∀ H4, I5 [(Value.slice a7 len7 cap7), (Value.int .i64 n18)]
    H4 → (((decide (n18 < ((len16 : Nat) : Int))) = true → ∃ ad20, (a16 = some ad20 ∧ 0 ≤ n18 ∧ n18 < ((len16 : Nat) : Int)) ∧ ∃ cs21, RdN H4 (Addr.add ad20 (Int.toNat n18 * 27)) 27 cs21 ∧ ∀ g9 H5,
    NewB H4 35 (zc 35) g9 H5 → ∃ H6, cs21.size = 27 ∧ wrN H5 ⟨g9, 0, none⟩ cs21.toList 0 = some H6 ∧ ∃ (l24 : List UInt8), cellAt H6 (Addr.add ⟨g9, 0, none⟩ 0) = some (Value.string ⟨⟨l24⟩⟩) ∧ ∃ (n25 :
    Int), HeapV Tryd.prog (Instr.lookup 49 (Value.map m14) (Value.string ⟨⟨l24⟩⟩) false) H6 (Value.int .i64 n25) ∧ ∃ (b29 : Bool), ((decide (n25 > (0 : Int))) = true → cellAt H6 (Addr.add ⟨g9, 0,
    none⟩ 2) = some (Value.bool b29)) ∧ ∃ (n32 : Int), (b29 = false → ((decide (n25 > (0 : Int))) = true → cellAt H6 (Addr.add ⟨g9, 0, none⟩ 1) = some (Value.int .i64 n32))) ∧ (((cond (decide (n25 >
    (0 : Int))) (cond b29 true (n32 != (2 : Int))) false) = true → ∃ (l38 : List UInt8), cellAt H6 (Addr.add ⟨g9, 0, none⟩ 0) = some (Value.string ⟨⟨l38⟩⟩) ∧ SemH Tryd.prog (Instr.buildSlice 27 1
    ⟨[(0, (Value.string ⟨⟨l38⟩⟩))]⟩) H6 (fun r39 H7 => ∃ (a39 : Option Addr) (len39 cap39 : Nat), r39 = (Value.slice a39 len39 cap39) ∧ SemH Tryd.prog (Builtin.append_ #[27, 27] 27 ⟨[(Value.slice a7
    len7 cap7), (Value.slice a39 len39 cap39)]⟩) H7 (fun r40 H8 => ∃ (a40 : Option Addr) (len40 cap40 : Nat), r40 = (Value.slice a40 len40 cap40) ∧ (∃ (a : Option Addr) (l c : Nat), (Value.slice a40
    len40 cap40) = Value.slice a l c) ∧ (∃ n : Int, (Value.int .i64 (IntKind.wrap .i64 (n18 + (1 : Int)))) = Value.int .i64 n) ∧ I5 [(Value.slice a40 len40 cap40), (Value.int .i64 (IntKind.wrap .i64
    (n18 + (1 : Int))))] H8 ∧ m5 [(Value.slice a40 len40 cap40), (Value.int .i64 (IntKind.wrap .i64 (n18 + (1 : Int))))] H8 < m5 [(Value.slice a7 len7 cap7), (Value.int .i64 n18)] H4))) ∧ ((cond
    (decide (n25 > (0 : Int))) (cond b29 true (n32 != (2 : Int))) false) = false → (∃ (a : Option Addr) (l c : Nat), (Value.slice a7 len7 cap7) = Value.slice a l c) ∧ (∃ n : Int, (Value.int .i64
    (IntKind.wrap .i64 (n18 + (1 : Int)))) = Value.int .i64 n) ∧ I5 [(Value.slice a7 len7 cap7), (Value.int .i64 (IntKind.wrap .i64 (n18 + (1 : Int))))] H6 ∧ m5 [(Value.slice a7 len7 cap7), (Value.int
    .i64 (IntKind.wrap .i64 (n18 + (1 : Int))))] H6 < m5 [(Value.slice a7 len7 cap7), (Value.int .i64 n18)] H4))) ∧ ((decide (n18 < ((len16 : Nat) : Int))) = false → R (Value.slice a7 len7 cap7)
    H4))))))
theorem queue_Blocked.eq (aarg0 : Option Addr) (lenarg0 caparg0 : Nat) (aarg1 : Option Addr) (lenarg1 caparg1 : Nat) (R : Value → Heap → Prop) (H0 : Heap) : funcVC Tryd.prog tab fns [] [(5, [(7, 27), (18, 3)])] Tryd.f14 [(Value.slice aarg0 lenarg0 caparg0), (Value.slice aarg1 lenarg1 caparg1)] R H0 = queue_Blocked.vc aarg0 lenarg0 caparg0 aarg1 lenarg1 caparg1 R H0 := by kernel_rfl
theorem queue_Blocked.ok {aarg0 : Option Addr} {lenarg0 caparg0 : Nat} {aarg1 : Option Addr} {lenarg1 caparg1 : Nat} {R : Value → Heap → Prop} {H0 : Heap} (h : queue_Blocked.vc aarg0 lenarg0 caparg0 aarg1 lenarg1 caparg1 R H0) : CallsH Tryd.prog 14 ⟨[(Value.slice aarg0 lenarg0 caparg0), (Value.slice aarg1 lenarg1 caparg1)]⟩ H0 R :=
  funcVC_sound tab_ok fns_ok mixed_ok Tryd.func14 (cast (queue_Blocked.eq aarg0 lenarg0 caparg0 aarg1 lenarg1 caparg1 R H0).symm h)

/-- caravan/caravanref20.Blocked -/
def caravanref20_Blocked.vc (aarg0 : Option Addr) (lenarg0 caparg0 : Nat) (aarg1 : Option Addr) (lenarg1 caparg1 : Nat) (R : Value → Heap → Prop) (H0 : Heap) : Prop :=
  CallsH Tryd.prog 17 ⟨[(Value.slice aarg0 lenarg0 caparg0), (Value.slice aarg1 lenarg1 caparg1)]⟩ H0 (fun r10 H1 => ∃ (a10 : Option Addr) (len10 cap10 : Nat), r10 = (Value.slice a10 len10 cap10) ∧ ∃
    (I4 : List Value → Heap → Prop) (m4 : List Value → Heap → Nat), ((∃ (a : Option Addr) (l c : Nat), (Value.slice none 0 0) = Value.slice a l c) ∧ (∃ n : Int, (Value.int .i64 (0 : Int)) = Value.int
    .i64 n) ∧ I4 [(Value.slice none 0 0), (Value.int .i64 (0 : Int))] H1) ∧ (∀ (a6 : Option Addr) (len6 cap6 : Nat) (n7 : Int), ∀ H2, I4 [(Value.slice a6 len6 cap6), (Value.int .i64 n7)] H2 →
    (((decide (n7 < ((len10 : Nat) : Int))) = true → ∃ ad19, (a10 = some ad19 ∧ 0 ≤ n7 ∧ n7 < ((len10 : Nat) : Int)) ∧ ∃ (b21 : Bool), cellAt H2 (Addr.add (Addr.add ad19 (Int.toNat n7 * 27)) 2) = some
    (Value.bool b21) ∧ ∃ ad25, (b21 = false → (a10 = some ad25 ∧ 0 ≤ n7 ∧ n7 < ((len10 : Nat) : Int))) ∧ ∃ (n27 : Int), (b21 = false → cellAt H2 (Addr.add (Addr.add ad25 (Int.toNat n7 * 27)) 1) = some
    (Value.int .i64 n27)) ∧ ∃ ad34, ((cond b21 true (n27 != (2 : Int))) = true → (a10 = some ad34 ∧ 0 ≤ n7 ∧ n7 < ((len10 : Nat) : Int))) ∧ ∃ (l36 : List UInt8), ((cond b21 true (n27 != (2 : Int))) =
    true → cellAt H2 (Addr.add (Addr.add ad34 (Int.toNat n7 * 27)) 0) = some (Value.string ⟨⟨l36⟩⟩)) ∧ (((cond b21 true (n27 != (2 : Int))) = true → CallsH Tryd.prog 37 ⟨[(Value.slice a10 len10
    cap10), (Value.string ⟨⟨l36⟩⟩)]⟩ H2 (fun r37 H3 => ∃ (b37 : Bool), r37 = (Value.bool b37) ∧ ((b37 = true → ∃ ad42, (a10 = some ad42 ∧ 0 ≤ n7 ∧ n7 < ((len10 : Nat) : Int)) ∧ ∃ (l44 : List UInt8),
    cellAt H3 (Addr.add (Addr.add ad42 (Int.toNat n7 * 27)) 0) = some (Value.string ⟨⟨l44⟩⟩) ∧ SemH Tryd.prog (Instr.buildSlice 27 1 ⟨[(0, (Value.string ⟨⟨l44⟩⟩))]⟩) H3 (fun r45 H4 => ∃ (a45 : Option
    Addr) (len45 cap45 : Nat), r45 = (Value.slice a45 len45 cap45) ∧ SemH Tryd.prog (Builtin.append_ #[27, 27] 27 ⟨[(Value.slice a6 len6 cap6), (Value.slice a45 len45 cap45)]⟩) H4 (fun r46 H5 => ∃
    (a46 : Option Addr) (len46 cap46 : Nat), r46 = (Value.slice a46 len46 cap46) ∧ (∃ (a : Option Addr) (l c : Nat), (Value.slice a46 len46 cap46) = Value.slice a l c) ∧ (∃ n : Int, (Value.int .i64
    (IntKind.wrap .i64 (n7 + (1 : Int)))) = Value.int .i64 n) ∧ I4 [(Value.slice a46 len46 cap46), (Value.int .i64 (IntKind.wrap .i64 (n7 + (1 : Int))))] H5 ∧ m4 [(Value.slice a46 len46 cap46),
    (Value.int .i64 (IntKind.wrap .i64 (n7 + (1 : Int))))] H5 < m4 [(Value.slice a6 len6 cap6), (Value.int .i64 n7)] H2))) ∧ (b37 = false → (∃ (a : Option Addr) (l c : Nat), (Value.slice a6 len6 cap6)
    = Value.slice a l c) ∧ (∃ n : Int, (Value.int .i64 (IntKind.wrap .i64 (n7 + (1 : Int)))) = Value.int .i64 n) ∧ I4 [(Value.slice a6 len6 cap6), (Value.int .i64 (IntKind.wrap .i64 (n7 + (1 :
    Int))))] H3 ∧ m4 [(Value.slice a6 len6 cap6), (Value.int .i64 (IntKind.wrap .i64 (n7 + (1 : Int))))] H3 < m4 [(Value.slice a6 len6 cap6), (Value.int .i64 n7)] H2)))) ∧ ((cond b21 true (n27 != (2 :
    Int))) = false → (∃ (a : Option Addr) (l c : Nat), (Value.slice a6 len6 cap6) = Value.slice a l c) ∧ (∃ n : Int, (Value.int .i64 (IntKind.wrap .i64 (n7 + (1 : Int)))) = Value.int .i64 n) ∧ I4
    [(Value.slice a6 len6 cap6), (Value.int .i64 (IntKind.wrap .i64 (n7 + (1 : Int))))] H2 ∧ m4 [(Value.slice a6 len6 cap6), (Value.int .i64 (IntKind.wrap .i64 (n7 + (1 : Int))))] H2 < m4
    [(Value.slice a6 len6 cap6), (Value.int .i64 n7)] H2))) ∧ ((decide (n7 < ((len10 : Nat) : Int))) = false → R (Value.slice a6 len6 cap6) H2))))
theorem caravanref20_Blocked.eq (aarg0 : Option Addr) (lenarg0 caparg0 : Nat) (aarg1 : Option Addr) (lenarg1 caparg1 : Nat) (R : Value → Heap → Prop) (H0 : Heap) : funcVC Tryd.prog tab fns [] [(4, [(6, 27), (7, 3)])] Tryd.f15 [(Value.slice aarg0 lenarg0 caparg0), (Value.slice aarg1 lenarg1 caparg1)] R H0 = caravanref20_Blocked.vc aarg0 lenarg0 caparg0 aarg1 lenarg1 caparg1 R H0 := by kernel_rfl
theorem caravanref20_Blocked.ok {aarg0 : Option Addr} {lenarg0 caparg0 : Nat} {aarg1 : Option Addr} {lenarg1 caparg1 : Nat} {R : Value → Heap → Prop} {H0 : Heap} (h : caravanref20_Blocked.vc aarg0 lenarg0 caparg0 aarg1 lenarg1 caparg1 R H0) : CallsH Tryd.prog 15 ⟨[(Value.slice aarg0 lenarg0 caparg0), (Value.slice aarg1 lenarg1 caparg1)]⟩ H0 R :=
  funcVC_sound tab_ok fns_ok mixed_ok Tryd.func15 (cast (caravanref20_Blocked.eq aarg0 lenarg0 caparg0 aarg1 lenarg1 caparg1 R H0).symm h)

/-- caravan/queue.Aim -/
def queue_Aim.vc (aarg0 : Option Addr) (lenarg0 caparg0 : Nat) (aarg1 : Option Addr) (lenarg1 caparg1 : Nat) (R : Value → Heap → Prop) (H0 : Heap) : Prop :=
  CallsH Tryd.prog 36 ⟨[(Value.slice aarg0 lenarg0 caparg0), (Value.slice aarg1 lenarg1 caparg1)]⟩ H0 (fun r7 H1 => ∃ (m7 : Option Nat), r7 = (Value.map m7) ∧ CallsH Tryd.prog 30 ⟨[(Value.map m7)]⟩ H1
    (fun r8 H2 => ∃ (a8 : Option Addr) (len8 cap8 : Nat), r8 = (Value.slice a8 len8 cap8) ∧ R (Value.slice a8 len8 cap8) H2))
theorem queue_Aim.eq (aarg0 : Option Addr) (lenarg0 caparg0 : Nat) (aarg1 : Option Addr) (lenarg1 caparg1 : Nat) (R : Value → Heap → Prop) (H0 : Heap) : funcVC Tryd.prog tab fns [] [] Tryd.f16 [(Value.slice aarg0 lenarg0 caparg0), (Value.slice aarg1 lenarg1 caparg1)] R H0 = queue_Aim.vc aarg0 lenarg0 caparg0 aarg1 lenarg1 caparg1 R H0 := by kernel_rfl
theorem queue_Aim.ok {aarg0 : Option Addr} {lenarg0 caparg0 : Nat} {aarg1 : Option Addr} {lenarg1 caparg1 : Nat} {R : Value → Heap → Prop} {H0 : Heap} (h : queue_Aim.vc aarg0 lenarg0 caparg0 aarg1 lenarg1 caparg1 R H0) : CallsH Tryd.prog 16 ⟨[(Value.slice aarg0 lenarg0 caparg0), (Value.slice aarg1 lenarg1 caparg1)]⟩ H0 R :=
  funcVC_sound tab_ok fns_ok mixed_ok Tryd.func16 (cast (queue_Aim.eq aarg0 lenarg0 caparg0 aarg1 lenarg1 caparg1 R H0).symm h)

/-- caravan/caravanref20.Aim -/
def caravanref20_Aim.vc (aarg0 : Option Addr) (lenarg0 caparg0 : Nat) (aarg1 : Option Addr) (lenarg1 caparg1 : Nat) (R : Value → Heap → Prop) (H0 : Heap) : Prop :=
  CallsH Tryd.prog 33 ⟨[(Value.slice aarg1 lenarg1 caparg1)]⟩ H0 (fun r8 H1 => ∃ (a8 : Option Addr) (len8 cap8 : Nat), r8 = (Value.slice a8 len8 cap8) ∧ SemH Tryd.prog (Builtin.append_ #[22, 22] 22
    ⟨[(Value.slice none 0 0), (Value.slice a8 len8 cap8)]⟩) H1 (fun r9 H2 => ∃ (a9 : Option Addr) (len9 cap9 : Nat), r9 = (Value.slice a9 len9 cap9) ∧ CallsH Tryd.prog 33 ⟨[(Value.slice aarg0 lenarg0
    caparg0)]⟩ H2 (fun r12 H3 => ∃ (a12 : Option Addr) (len12 cap12 : Nat), r12 = (Value.slice a12 len12 cap12) ∧ SemH Tryd.prog (Builtin.append_ #[22, 22] 22 ⟨[(Value.slice a9 len9 cap9),
    (Value.slice a12 len12 cap12)]⟩) H3 (fun r13 H4 => ∃ (a13 : Option Addr) (len13 cap13 : Nat), r13 = (Value.slice a13 len13 cap13) ∧ CallsH Tryd.prog 33 ⟨[(Value.slice a13 len13 cap13)]⟩ H4 (fun
    r15 H5 => ∃ (a15 : Option Addr) (len15 cap15 : Nat), r15 = (Value.slice a15 len15 cap15) ∧ R (Value.slice a15 len15 cap15) H5)))))
theorem caravanref20_Aim.eq (aarg0 : Option Addr) (lenarg0 caparg0 : Nat) (aarg1 : Option Addr) (lenarg1 caparg1 : Nat) (R : Value → Heap → Prop) (H0 : Heap) : funcVC Tryd.prog tab fns [] [] Tryd.f17 [(Value.slice aarg0 lenarg0 caparg0), (Value.slice aarg1 lenarg1 caparg1)] R H0 = caravanref20_Aim.vc aarg0 lenarg0 caparg0 aarg1 lenarg1 caparg1 R H0 := by kernel_rfl
theorem caravanref20_Aim.ok {aarg0 : Option Addr} {lenarg0 caparg0 : Nat} {aarg1 : Option Addr} {lenarg1 caparg1 : Nat} {R : Value → Heap → Prop} {H0 : Heap} (h : caravanref20_Aim.vc aarg0 lenarg0 caparg0 aarg1 lenarg1 caparg1 R H0) : CallsH Tryd.prog 17 ⟨[(Value.slice aarg0 lenarg0 caparg0), (Value.slice aarg1 lenarg1 caparg1)]⟩ H0 R :=
  funcVC_sound tab_ok fns_ok mixed_ok Tryd.func17 (cast (caravanref20_Aim.eq aarg0 lenarg0 caparg0 aarg1 lenarg1 caparg1 R H0).symm h)

/-- caravan/caravanref02.Same -/
def caravanref02_Same.vc (aarg0 : Option Addr) (lenarg0 _caparg0 : Nat) (aarg1 : Option Addr) (lenarg1 _caparg1 : Nat) (R : Value → Heap → Prop) (H0 : Heap) : Prop :=
  (((((lenarg0 : Nat) : Int) != ((lenarg1 : Nat) : Int)) = true → R (Value.bool false) H0) ∧ ((((lenarg0 : Nat) : Int) != ((lenarg1 : Nat) : Int)) = false → ∃ (I4 : List Value → Heap → Prop) (m4 : List
    Value → Heap → Nat), ((∃ n : Int, (Value.int .i64 (0 : Int)) = Value.int .i64 n) ∧ I4 [(Value.int .i64 (0 : Int))] H0) ∧ (∀ (n5 : Int), ∀ H1, I4 [(Value.int .i64 n5)] H1 → (((decide (n5 <
    ((lenarg0 : Nat) : Int))) = true → ∃ ad19, (aarg0 = some ad19 ∧ 0 ≤ n5 ∧ n5 < ((lenarg0 : Nat) : Int)) ∧ ∃ (l20 : List UInt8), cellAt H1 (Addr.add ad19 (Int.toNat n5 * 1)) = some (Value.string
    ⟨⟨l20⟩⟩) ∧ ∃ ad23, (aarg1 = some ad23 ∧ 0 ≤ n5 ∧ n5 < ((lenarg1 : Nat) : Int)) ∧ ∃ (l24 : List UInt8), cellAt H1 (Addr.add ad23 (Int.toNat n5 * 1)) = some (Value.string ⟨⟨l24⟩⟩) ∧ (((!(l20 ==
    l24)) = true → R (Value.bool false) H1) ∧ ((!(l20 == l24)) = false → (∃ n : Int, (Value.int .i64 (IntKind.wrap .i64 (n5 + (1 : Int)))) = Value.int .i64 n) ∧ I4 [(Value.int .i64 (IntKind.wrap .i64
    (n5 + (1 : Int))))] H1 ∧ m4 [(Value.int .i64 (IntKind.wrap .i64 (n5 + (1 : Int))))] H1 < m4 [(Value.int .i64 n5)] H1))) ∧ ((decide (n5 < ((lenarg0 : Nat) : Int))) = false → R (Value.bool true)
    H1)))))
theorem caravanref02_Same.eq (aarg0 : Option Addr) (lenarg0 caparg0 : Nat) (aarg1 : Option Addr) (lenarg1 caparg1 : Nat) (R : Value → Heap → Prop) (H0 : Heap) : funcVC Tryd.prog tab fns [] [(4, [(5, 3)])] Tryd.f18 [(Value.slice aarg0 lenarg0 caparg0), (Value.slice aarg1 lenarg1 caparg1)] R H0 = caravanref02_Same.vc aarg0 lenarg0 caparg0 aarg1 lenarg1 caparg1 R H0 := by kernel_rfl
theorem caravanref02_Same.ok {aarg0 : Option Addr} {lenarg0 caparg0 : Nat} {aarg1 : Option Addr} {lenarg1 caparg1 : Nat} {R : Value → Heap → Prop} {H0 : Heap} (h : caravanref02_Same.vc aarg0 lenarg0 caparg0 aarg1 lenarg1 caparg1 R H0) : CallsH Tryd.prog 18 ⟨[(Value.slice aarg0 lenarg0 caparg0), (Value.slice aarg1 lenarg1 caparg1)]⟩ H0 R :=
  funcVC_sound tab_ok fns_ok mixed_ok Tryd.func18 (cast (caravanref02_Same.eq aarg0 lenarg0 caparg0 aarg1 lenarg1 caparg1 R H0).symm h)

/-- caravan/caravanlaw20.QueueKnown$1 -/
def caravanlaw20_QueueKnown_1.vc (larg0 : List UInt8) (R : Value → Heap → Prop) (H0 : Heap) : Prop :=
  ∀ g2 H1, NewB H0 35 (zc 35) g2 H1 → ∃ (cs4 : Array Value), PureV Tryd.prog (Instr.build 35 ⟨[(0, (Value.string ⟨⟨larg0⟩⟩)), (1, (Value.int .i64 (2 : Int)))]⟩) (Value.agg cs4) ∧ ∃ H2, cs4.size = 27 ∧
    wrN H1 ⟨g2, 0, none⟩ cs4.toList 0 = some H2 ∧ ∃ csres, RdN H2 ⟨g2, 0, none⟩ 27 csres ∧ R (Value.agg csres) H2
theorem caravanlaw20_QueueKnown_1.eq (larg0 : List UInt8) (R : Value → Heap → Prop) (H0 : Heap) : funcVC Tryd.prog tab fns [] [] Tryd.f19 [(Value.string ⟨⟨larg0⟩⟩)] R H0 = caravanlaw20_QueueKnown_1.vc larg0 R H0 := by kernel_rfl
theorem caravanlaw20_QueueKnown_1.ok {larg0 : List UInt8} {R : Value → Heap → Prop} {H0 : Heap} (h : caravanlaw20_QueueKnown_1.vc larg0 R H0) : CallsH Tryd.prog 19 ⟨[(Value.string ⟨⟨larg0⟩⟩)]⟩ H0 R :=
  funcVC_sound tab_ok fns_ok mixed_ok Tryd.func19 (cast (caravanlaw20_QueueKnown_1.eq larg0 R H0).symm h)

/-- caravan/caravanlaw20.QueueKnown$2 -/
def caravanlaw20_QueueKnown_2.vc (larg0 : List UInt8) (R : Value → Heap → Prop) (H0 : Heap) : Prop :=
  ∀ g2 H1, NewB H0 35 (zc 35) g2 H1 → ∃ (cs4 : Array Value), PureV Tryd.prog (Instr.build 35 ⟨[(0, (Value.string ⟨⟨larg0⟩⟩)), (1, (Value.int .i64 (1 : Int)))]⟩) (Value.agg cs4) ∧ ∃ H2, cs4.size = 27 ∧
    wrN H1 ⟨g2, 0, none⟩ cs4.toList 0 = some H2 ∧ ∃ csres, RdN H2 ⟨g2, 0, none⟩ 27 csres ∧ R (Value.agg csres) H2
theorem caravanlaw20_QueueKnown_2.eq (larg0 : List UInt8) (R : Value → Heap → Prop) (H0 : Heap) : funcVC Tryd.prog tab fns [] [] Tryd.f20 [(Value.string ⟨⟨larg0⟩⟩)] R H0 = caravanlaw20_QueueKnown_2.vc larg0 R H0 := by kernel_rfl
theorem caravanlaw20_QueueKnown_2.ok {larg0 : List UInt8} {R : Value → Heap → Prop} {H0 : Heap} (h : caravanlaw20_QueueKnown_2.vc larg0 R H0) : CallsH Tryd.prog 20 ⟨[(Value.string ⟨⟨larg0⟩⟩)]⟩ H0 R :=
  funcVC_sound tab_ok fns_ok mixed_ok Tryd.func20 (cast (caravanlaw20_QueueKnown_2.eq larg0 R H0).symm h)

/-- caravan/caravanlaw20.QueueKnown$3 -/
def caravanlaw20_QueueKnown_3.vc (larg0 : List UInt8) (R : Value → Heap → Prop) (H0 : Heap) : Prop :=
  ∀ g2 H1, NewB H0 35 (zc 35) g2 H1 → ∃ (cs4 : Array Value), PureV Tryd.prog (Instr.build 35 ⟨[(0, (Value.string ⟨⟨larg0⟩⟩)), (1, (Value.int .i64 (1 : Int))), (2, (Value.bool true))]⟩) (Value.agg cs4) ∧
    ∃ H2, cs4.size = 27 ∧ wrN H1 ⟨g2, 0, none⟩ cs4.toList 0 = some H2 ∧ ∃ csres, RdN H2 ⟨g2, 0, none⟩ 27 csres ∧ R (Value.agg csres) H2
theorem caravanlaw20_QueueKnown_3.eq (larg0 : List UInt8) (R : Value → Heap → Prop) (H0 : Heap) : funcVC Tryd.prog tab fns [] [] Tryd.f21 [(Value.string ⟨⟨larg0⟩⟩)] R H0 = caravanlaw20_QueueKnown_3.vc larg0 R H0 := by kernel_rfl
theorem caravanlaw20_QueueKnown_3.ok {larg0 : List UInt8} {R : Value → Heap → Prop} {H0 : Heap} (h : caravanlaw20_QueueKnown_3.vc larg0 R H0) : CallsH Tryd.prog 21 ⟨[(Value.string ⟨⟨larg0⟩⟩)]⟩ H0 R :=
  funcVC_sound tab_ok fns_ok mixed_ok Tryd.func21 (cast (caravanlaw20_QueueKnown_3.eq larg0 R H0).symm h)

/-- caravan/caravanlaw20.tree -/
def caravanlaw20_tree.vc (aarg0 : Option Addr) (lenarg0 _caparg0 : Nat) (R : Value → Heap → Prop) (H0 : Heap) : Prop :=
  ∃ (I2 : List Value → Heap → Prop) (m2 : List Value → Heap → Nat), ((∃ n : Int, (Value.int .i64 (0 : Int)) = Value.int .i64 n) ∧ I2 [(Value.int .i64 (0 : Int))] H0) ∧ (∀ (n3 : Int), ∀ H1, I2
    [(Value.int .i64 n3)] H1 → (((decide (n3 < ((lenarg0 : Nat) : Int))) = true → ∃ (I5 : List Value → Heap → Prop) (m5 : List Value → Heap → Nat), ((∃ n : Int, (Value.int .i64 (0 : Int)) = Value.int
    .i64 n) ∧ I5 [(Value.int .i64 (0 : Int))] H1) ∧ (∀ (n4 : Int), ∀ H2, I5 [(Value.int .i64 n4)] H2 → (((decide (n4 < ((lenarg0 : Nat) : Int))) = true → ∃ ad19, (aarg0 = some ad19 ∧ 0 ≤ n3 ∧ n3 <
    ((lenarg0 : Nat) : Int)) ∧ ∃ (b21 : Bool), cellAt H2 (Addr.add (Addr.add ad19 (Int.toNat n3 * 27)) 2) = some (Value.bool b21) ∧ ∃ ad26, ((!b21) = true → (aarg0 = some ad26 ∧ 0 ≤ n4 ∧ n4 <
    ((lenarg0 : Nat) : Int))) ∧ ∃ (b28 : Bool), ((!b21) = true → cellAt H2 (Addr.add (Addr.add ad26 (Int.toNat n4 * 27)) 2) = some (Value.bool b28)) ∧ ∃ ad34, ((cond (!b21) (!b28) false) = true →
    (aarg0 = some ad34 ∧ 0 ≤ n4 ∧ n4 < ((lenarg0 : Nat) : Int))) ∧ ∃ (n36 : Int), ((cond (!b21) (!b28) false) = true → cellAt H2 (Addr.add (Addr.add ad34 (Int.toNat n4 * 27)) 1) = some (Value.int .i64
    n36)) ∧ ∃ ad42, ((cond (cond (!b21) (!b28) false) (n36 != (2 : Int)) false) = true → (aarg0 = some ad42 ∧ 0 ≤ n3 ∧ n3 < ((lenarg0 : Nat) : Int))) ∧ ∃ (l44 : List UInt8), ((cond (cond (!b21) (!b28)
    false) (n36 != (2 : Int)) false) = true → cellAt H2 (Addr.add (Addr.add ad42 (Int.toNat n3 * 27)) 0) = some (Value.string ⟨⟨l44⟩⟩)) ∧ ∃ ad47, ((cond (cond (!b21) (!b28) false) (n36 != (2 : Int))
    false) = true → (aarg0 = some ad47 ∧ 0 ≤ n4 ∧ n4 < ((lenarg0 : Nat) : Int))) ∧ ∃ (l49 : List UInt8), ((cond (cond (!b21) (!b28) false) (n36 != (2 : Int)) false) = true → cellAt H2 (Addr.add
    (Addr.add ad47 (Int.toNat n4 * 27)) 0) = some (Value.string ⟨⟨l49⟩⟩)) ∧ (((cond (cond (!b21) (!b28) false) (n36 != (2 : Int)) false) = true → CallsH Tryd.prog 38 ⟨[(Value.string ⟨⟨l44⟩⟩),
    (Value.string ⟨⟨l49⟩⟩)]⟩ H2 (fun r50 H3 => ∃ (b50 : Bool), r50 = (Value.bool b50) ∧ Ext H2 H3 ∧ ((b50 = true → R (Value.bool false) H3) ∧ (b50 = false → (∃ n : Int, (Value.int .i64 (IntKind.wrap
    .i64 (n4 + (1 : Int)))) = Value.int .i64 n) ∧ I5 [(Value.int .i64 (IntKind.wrap .i64 (n4 + (1 : Int))))] H3 ∧ m5 [(Value.int .i64 (IntKind.wrap .i64 (n4 + (1 : Int))))] H3 < m5 [(Value.int .i64
    n4)] H2)))) ∧ ((cond (cond (!b21) (!b28) false) (n36 != (2 : Int)) false) = false → (∃ n : Int, (Value.int .i64 (IntKind.wrap .i64 (n4 + (1 : Int)))) = Value.int .i64 n) ∧ I5 [(Value.int .i64
    (IntKind.wrap .i64 (n4 + (1 : Int))))] H2 ∧ m5 [(Value.int .i64 (IntKind.wrap .i64 (n4 + (1 : Int))))] H2 < m5 [(Value.int .i64 n4)] H2))) ∧ ((decide (n4 < ((lenarg0 : Nat) : Int))) = false → (∃ n
    : Int, (Value.int .i64 (IntKind.wrap .i64 (n3 + (1 : Int)))) = Value.int .i64 n) ∧ I2 [(Value.int .i64 (IntKind.wrap .i64 (n3 + (1 : Int))))] H2 ∧ m2 [(Value.int .i64 (IntKind.wrap .i64 (n3 + (1 :
    Int))))] H2 < m2 [(Value.int .i64 n3)] H1)))) ∧ ((decide (n3 < ((lenarg0 : Nat) : Int))) = false → R (Value.bool true) H1)))
theorem caravanlaw20_tree.eq (aarg0 : Option Addr) (lenarg0 caparg0 : Nat) (R : Value → Heap → Prop) (H0 : Heap) : funcVC Tryd.prog tab fns [] [(2, [(3, 3)]), (5, [(4, 3)])] Tryd.f22 [(Value.slice aarg0 lenarg0 caparg0)] R H0 = caravanlaw20_tree.vc aarg0 lenarg0 caparg0 R H0 := by kernel_rfl
theorem caravanlaw20_tree.ok {aarg0 : Option Addr} {lenarg0 caparg0 : Nat} {R : Value → Heap → Prop} {H0 : Heap} (h : caravanlaw20_tree.vc aarg0 lenarg0 caparg0 R H0) : CallsH Tryd.prog 22 ⟨[(Value.slice aarg0 lenarg0 caparg0)]⟩ H0 R :=
  funcVC_sound tab_ok fns_ok mixed_ok Tryd.func22 (cast (caravanlaw20_tree.eq aarg0 lenarg0 caparg0 R H0).symm h)

/-- caravan/caravanlaw20.pick -/
def caravanlaw20_pick.vc (aarg0 : Option Addr) (lenarg0 _caparg0 : Nat) (narg1 : Int) (narg2 : Int) (R : Value → Heap → Prop) (H0 : Heap) : Prop :=
  (((decide (narg1 < ((lenarg0 : Nat) : Int))) = true → ∃ ad13, (aarg0 = some ad13 ∧ 0 ≤ narg1 ∧ narg1 < ((lenarg0 : Nat) : Int)) ∧ ∃ (n14 : Int), cellAt H0 (Addr.add ad13 (Int.toNat narg1 * 1)) = some
    (Value.int .u8 n14) ∧ narg2 ≠ 0 ∧ R (Value.int .i64 (Int.tmod (IntKind.wrap .i64 n14) narg2)) H0) ∧ ((decide (narg1 < ((lenarg0 : Nat) : Int))) = false → R (Value.int .i64 (0 : Int)) H0))
theorem caravanlaw20_pick.eq (aarg0 : Option Addr) (lenarg0 caparg0 : Nat) (narg1 : Int) (narg2 : Int) (R : Value → Heap → Prop) (H0 : Heap) : funcVC Tryd.prog tab fns [] [] Tryd.f23 [(Value.slice aarg0 lenarg0 caparg0), (Value.int .i64 narg1), (Value.int .i64 narg2)] R H0 = caravanlaw20_pick.vc aarg0 lenarg0 caparg0 narg1 narg2 R H0 := by kernel_rfl
theorem caravanlaw20_pick.ok {aarg0 : Option Addr} {lenarg0 caparg0 : Nat} {narg1 : Int} {narg2 : Int} {R : Value → Heap → Prop} {H0 : Heap} (h : caravanlaw20_pick.vc aarg0 lenarg0 caparg0 narg1 narg2 R H0) : CallsH Tryd.prog 23 ⟨[(Value.slice aarg0 lenarg0 caparg0), (Value.int .i64 narg1), (Value.int .i64 narg2)]⟩ H0 R :=
  funcVC_sound tab_ok fns_ok mixed_ok Tryd.func23 (cast (caravanlaw20_pick.eq aarg0 lenarg0 caparg0 narg1 narg2 R H0).symm h)

/-- caravan/caravanlaw20.put -/
def caravanlaw20_put.vc (aarg0 : Option Addr) (lenarg0 _caparg0 : Nat) (csarg1 : Array Value) (R : Value → Heap → Prop) (H0 : Heap) : Prop :=
  ∀ g3 H1, NewB H0 35 csarg1 g3 H1 → ∃ (I3 : List Value → Heap → Prop) (m3 : List Value → Heap → Nat), ((∃ (a : Option Addr) (l c : Nat), (Value.slice none 0 0) = Value.slice a l c) ∧ (∃ n : Int,
    (Value.int .i64 (0 : Int)) = Value.int .i64 n) ∧ I3 [(Value.slice none 0 0), (Value.int .i64 (0 : Int))] H1) ∧ (∀ (a5 : Option Addr) (len5 cap5 : Nat) (n6 : Int), ∀ H2, I3 [(Value.slice a5 len5
    cap5), (Value.int .i64 n6)] H2 → (((decide (n6 < ((lenarg0 : Nat) : Int))) = true → ∃ ad15, (aarg0 = some ad15 ∧ 0 ≤ n6 ∧ n6 < ((lenarg0 : Nat) : Int)) ∧ ∃ (l17 : List UInt8), cellAt H2 (Addr.add
    (Addr.add ad15 (Int.toNat n6 * 27)) 0) = some (Value.string ⟨⟨l17⟩⟩) ∧ ∃ (l19 : List UInt8), cellAt H2 (Addr.add ⟨g3, 0, none⟩ 0) = some (Value.string ⟨⟨l19⟩⟩) ∧ (((!(l17 == l19)) = true → ∃ ad24,
    (aarg0 = some ad24 ∧ 0 ≤ n6 ∧ n6 < ((lenarg0 : Nat) : Int)) ∧ ∃ cs25, RdN H2 (Addr.add ad24 (Int.toNat n6 * 27)) 27 cs25 ∧ SemH Tryd.prog (Instr.buildSlice 22 1 ⟨[(0, (Value.agg cs25))]⟩) H2 (fun
    r26 H3 => ∃ (a26 : Option Addr) (len26 cap26 : Nat), r26 = (Value.slice a26 len26 cap26) ∧ SemH Tryd.prog (Builtin.append_ #[22, 22] 22 ⟨[(Value.slice a5 len5 cap5), (Value.slice a26 len26
    cap26)]⟩) H3 (fun r27 H4 => ∃ (a27 : Option Addr) (len27 cap27 : Nat), r27 = (Value.slice a27 len27 cap27) ∧ (∃ (a : Option Addr) (l c : Nat), (Value.slice a27 len27 cap27) = Value.slice a l c) ∧
    (∃ n : Int, (Value.int .i64 (IntKind.wrap .i64 (n6 + (1 : Int)))) = Value.int .i64 n) ∧ I3 [(Value.slice a27 len27 cap27), (Value.int .i64 (IntKind.wrap .i64 (n6 + (1 : Int))))] H4 ∧ m3
    [(Value.slice a27 len27 cap27), (Value.int .i64 (IntKind.wrap .i64 (n6 + (1 : Int))))] H4 < m3 [(Value.slice a5 len5 cap5), (Value.int .i64 n6)] H2))) ∧ ((!(l17 == l19)) = false → (∃ (a : Option
    Addr) (l c : Nat), (Value.slice a5 len5 cap5) = Value.slice a l c) ∧ (∃ n : Int, (Value.int .i64 (IntKind.wrap .i64 (n6 + (1 : Int)))) = Value.int .i64 n) ∧ I3 [(Value.slice a5 len5 cap5),
    (Value.int .i64 (IntKind.wrap .i64 (n6 + (1 : Int))))] H2 ∧ m3 [(Value.slice a5 len5 cap5), (Value.int .i64 (IntKind.wrap .i64 (n6 + (1 : Int))))] H2 < m3 [(Value.slice a5 len5 cap5), (Value.int
    .i64 n6)] H2))) ∧ ((decide (n6 < ((lenarg0 : Nat) : Int))) = false → ∃ cs29, RdN H2 ⟨g3, 0, none⟩ 27 cs29 ∧ SemH Tryd.prog (Instr.buildSlice 22 1 ⟨[(0, (Value.agg cs29))]⟩) H2 (fun r30 H5 => ∃
    (a30 : Option Addr) (len30 cap30 : Nat), r30 = (Value.slice a30 len30 cap30) ∧ SemH Tryd.prog (Builtin.append_ #[22, 22] 22 ⟨[(Value.slice a5 len5 cap5), (Value.slice a30 len30 cap30)]⟩) H5 (fun
    r31 H6 => ∃ (a31 : Option Addr) (len31 cap31 : Nat), r31 = (Value.slice a31 len31 cap31) ∧ R (Value.slice a31 len31 cap31) H6)))))
theorem caravanlaw20_put.eq (aarg0 : Option Addr) (lenarg0 caparg0 : Nat) (csarg1 : Array Value) (R : Value → Heap → Prop) (H0 : Heap) : funcVC Tryd.prog tab fns [] [(3, [(5, 22), (6, 3)])] Tryd.f24 [(Value.slice aarg0 lenarg0 caparg0), (Value.agg csarg1)] R H0 = caravanlaw20_put.vc aarg0 lenarg0 caparg0 csarg1 R H0 := by kernel_rfl
theorem caravanlaw20_put.ok {aarg0 : Option Addr} {lenarg0 caparg0 : Nat} {csarg1 : Array Value} {R : Value → Heap → Prop} {H0 : Heap} (h : caravanlaw20_put.vc aarg0 lenarg0 caparg0 csarg1 R H0) : CallsH Tryd.prog 24 ⟨[(Value.slice aarg0 lenarg0 caparg0), (Value.agg csarg1)]⟩ H0 R :=
  funcVC_sound tab_ok fns_ok mixed_ok Tryd.func24 (cast (caravanlaw20_put.eq aarg0 lenarg0 caparg0 csarg1 R H0).symm h)

/-- caravan/caravanlaw20.without -/
def caravanlaw20_without.vc (aarg0 : Option Addr) (lenarg0 _caparg0 : Nat) (larg1 : List UInt8) (R : Value → Heap → Prop) (H0 : Heap) : Prop :=
  ∃ (I3 : List Value → Heap → Prop) (m3 : List Value → Heap → Nat), ((∃ (a : Option Addr) (l c : Nat), (Value.slice none 0 0) = Value.slice a l c) ∧ (∃ n : Int, (Value.int .i64 (0 : Int)) = Value.int
    .i64 n) ∧ I3 [(Value.slice none 0 0), (Value.int .i64 (0 : Int))] H0) ∧ (∀ (a5 : Option Addr) (len5 cap5 : Nat) (n6 : Int), ∀ H1, I3 [(Value.slice a5 len5 cap5), (Value.int .i64 n6)] H1 →
    (((decide (n6 < ((lenarg0 : Nat) : Int))) = true → ∃ ad15, (aarg0 = some ad15 ∧ 0 ≤ n6 ∧ n6 < ((lenarg0 : Nat) : Int)) ∧ ∃ (l17 : List UInt8), cellAt H1 (Addr.add (Addr.add ad15 (Int.toNat n6 *
    27)) 0) = some (Value.string ⟨⟨l17⟩⟩) ∧ (((!(l17 == larg1)) = true → ∃ ad23, (aarg0 = some ad23 ∧ 0 ≤ n6 ∧ n6 < ((lenarg0 : Nat) : Int)) ∧ ∃ cs24, RdN H1 (Addr.add ad23 (Int.toNat n6 * 27)) 27
    cs24 ∧ SemH Tryd.prog (Instr.buildSlice 22 1 ⟨[(0, (Value.agg cs24))]⟩) H1 (fun r25 H2 => ∃ (a25 : Option Addr) (len25 cap25 : Nat), r25 = (Value.slice a25 len25 cap25) ∧ SemH Tryd.prog
    (Builtin.append_ #[22, 22] 22 ⟨[(Value.slice a5 len5 cap5), (Value.slice a25 len25 cap25)]⟩) H2 (fun r26 H3 => ∃ (a26 : Option Addr) (len26 cap26 : Nat), r26 = (Value.slice a26 len26 cap26) ∧ (∃
    (a : Option Addr) (l c : Nat), (Value.slice a26 len26 cap26) = Value.slice a l c) ∧ (∃ n : Int, (Value.int .i64 (IntKind.wrap .i64 (n6 + (1 : Int)))) = Value.int .i64 n) ∧ I3 [(Value.slice a26
    len26 cap26), (Value.int .i64 (IntKind.wrap .i64 (n6 + (1 : Int))))] H3 ∧ m3 [(Value.slice a26 len26 cap26), (Value.int .i64 (IntKind.wrap .i64 (n6 + (1 : Int))))] H3 < m3 [(Value.slice a5 len5
    cap5), (Value.int .i64 n6)] H1))) ∧ ((!(l17 == larg1)) = false → (∃ (a : Option Addr) (l c : Nat), (Value.slice a5 len5 cap5) = Value.slice a l c) ∧ (∃ n : Int, (Value.int .i64 (IntKind.wrap .i64
    (n6 + (1 : Int)))) = Value.int .i64 n) ∧ I3 [(Value.slice a5 len5 cap5), (Value.int .i64 (IntKind.wrap .i64 (n6 + (1 : Int))))] H1 ∧ m3 [(Value.slice a5 len5 cap5), (Value.int .i64 (IntKind.wrap
    .i64 (n6 + (1 : Int))))] H1 < m3 [(Value.slice a5 len5 cap5), (Value.int .i64 n6)] H1))) ∧ ((decide (n6 < ((lenarg0 : Nat) : Int))) = false → R (Value.slice a5 len5 cap5) H1)))
theorem caravanlaw20_without.eq (aarg0 : Option Addr) (lenarg0 caparg0 : Nat) (larg1 : List UInt8) (R : Value → Heap → Prop) (H0 : Heap) : funcVC Tryd.prog tab fns [] [(3, [(5, 22), (6, 3)])] Tryd.f25 [(Value.slice aarg0 lenarg0 caparg0), (Value.string ⟨⟨larg1⟩⟩)] R H0 = caravanlaw20_without.vc aarg0 lenarg0 caparg0 larg1 R H0 := by kernel_rfl
theorem caravanlaw20_without.ok {aarg0 : Option Addr} {lenarg0 caparg0 : Nat} {larg1 : List UInt8} {R : Value → Heap → Prop} {H0 : Heap} (h : caravanlaw20_without.vc aarg0 lenarg0 caparg0 larg1 R H0) : CallsH Tryd.prog 25 ⟨[(Value.slice aarg0 lenarg0 caparg0), (Value.string ⟨⟨larg1⟩⟩)]⟩ H0 R :=
  funcVC_sound tab_ok fns_ok mixed_ok Tryd.func25 (cast (caravanlaw20_without.eq aarg0 lenarg0 caparg0 larg1 R H0).symm h)

/-- caravan/record.Same -/
def record_Same.vc (csarg0 : Array Value) (csarg1 : Array Value) (R : Value → Heap → Prop) (H0 : Heap) : Prop :=
  ∀ g2 H1, NewB H0 35 csarg0 g2 H1 → ∀ g3 H2, NewB H1 35 csarg1 g3 H2 → ∃ cs5, RdN H2 ⟨g2, 0, none⟩ 27 cs5 ∧ ∃ cs6, RdN H2 ⟨g3, 0, none⟩ 27 cs6 ∧ CallsH Tryd.prog 39 ⟨[(Value.agg cs5), (Value.agg cs6)]⟩
    H2 (fun r7 H3 => ∃ (b7 : Bool), r7 = (Value.bool b7) ∧ ∃ cs9, (b7 = true → RdN H3 ⟨g2, 0, none⟩ 27 cs9) ∧ ∃ cs10, (b7 = true → RdN H3 ⟨g3, 0, none⟩ 27 cs10) ∧ ((b7 = true → CallsH Tryd.prog 40
    ⟨[(Value.agg cs9), (Value.agg cs10)]⟩ H3 (fun r11 H4 => ∃ (b11 : Bool), r11 = (Value.bool b11) ∧ ∃ (l15 : List UInt8), (b11 = true → cellAt H4 (Addr.add ⟨g2, 0, none⟩ 0) = some (Value.string
    ⟨⟨l15⟩⟩)) ∧ ∃ (l17 : List UInt8), (b11 = true → cellAt H4 (Addr.add ⟨g3, 0, none⟩ 0) = some (Value.string ⟨⟨l17⟩⟩)) ∧ ∃ (n22 : Int), ((cond b11 (l15 == l17) false) = true → cellAt H4 (Addr.add
    ⟨g2, 0, none⟩ 4) = some (Value.int .i64 n22)) ∧ ∃ (n24 : Int), ((cond b11 (l15 == l17) false) = true → cellAt H4 (Addr.add ⟨g3, 0, none⟩ 4) = some (Value.int .i64 n24)) ∧ ∃ (n29 : Int), ((cond
    (cond b11 (l15 == l17) false) (n22 == n24) false) = true → cellAt H4 (Addr.add ⟨g2, 0, none⟩ 5) = some (Value.int .i64 n29)) ∧ ∃ (n31 : Int), ((cond (cond b11 (l15 == l17) false) (n22 == n24)
    false) = true → cellAt H4 (Addr.add ⟨g3, 0, none⟩ 5) = some (Value.int .i64 n31)) ∧ ∃ (n36 : Int), ((cond (cond (cond b11 (l15 == l17) false) (n22 == n24) false) (n29 == n31) false) = true →
    cellAt H4 (Addr.add ⟨g2, 0, none⟩ 22) = some (Value.int .i64 n36)) ∧ ∃ (n38 : Int), ((cond (cond (cond b11 (l15 == l17) false) (n22 == n24) false) (n29 == n31) false) = true → cellAt H4 (Addr.add
    ⟨g3, 0, none⟩ 22) = some (Value.int .i64 n38)) ∧ ∃ (n43 : Int), ((cond (cond (cond (cond b11 (l15 == l17) false) (n22 == n24) false) (n29 == n31) false) (n36 == n38) false) = true → cellAt H4
    (Addr.add ⟨g2, 0, none⟩ 26) = some (Value.int .i64 n43)) ∧ ∃ (n45 : Int), ((cond (cond (cond (cond b11 (l15 == l17) false) (n22 == n24) false) (n29 == n31) false) (n36 == n38) false) = true →
    cellAt H4 (Addr.add ⟨g3, 0, none⟩ 26) = some (Value.int .i64 n45)) ∧ R (Value.bool (cond (cond (cond (cond (cond b11 (l15 == l17) false) (n22 == n24) false) (n29 == n31) false) (n36 == n38) false)
    (n43 == n45) false)) H4)) ∧ (b7 = false → R (Value.bool false) H3)))
theorem record_Same.eq (csarg0 : Array Value) (csarg1 : Array Value) (R : Value → Heap → Prop) (H0 : Heap) : funcVC Tryd.prog tab fns [] [] Tryd.f26 [(Value.agg csarg0), (Value.agg csarg1)] R H0 = record_Same.vc csarg0 csarg1 R H0 := by kernel_rfl
theorem record_Same.ok {csarg0 : Array Value} {csarg1 : Array Value} {R : Value → Heap → Prop} {H0 : Heap} (h : record_Same.vc csarg0 csarg1 R H0) : CallsH Tryd.prog 26 ⟨[(Value.agg csarg0), (Value.agg csarg1)]⟩ H0 R :=
  funcVC_sound tab_ok fns_ok mixed_ok Tryd.func26 (cast (record_Same.eq csarg0 csarg1 R H0).symm h)

/-- caravan/path.Cmp -/
def path_Cmp.vc (larg0 : List UInt8) (larg1 : List UInt8) (R : Value → Heap → Prop) (H0 : Heap) : Prop :=
  ∃ (I2 : List Value → Heap → Prop) (m2 : List Value → Heap → Nat), ((∃ n : Int, (Value.int .i64 (0 : Int)) = Value.int .i64 n) ∧ I2 [(Value.int .i64 (0 : Int))] H0) ∧ (∀ (n5 : Int), ∀ H1, I2
    [(Value.int .i64 n5)] H1 → (((cond (decide (n5 < ((List.length larg0 : Nat) : Int))) (decide (n5 < ((List.length larg1 : Nat) : Int))) false) = true → ∃ c20 : UInt8, (0 ≤ n5 ∧ larg0[Int.toNat n5]?
    = some c20) ∧ ∃ c23 : UInt8, (0 ≤ n5 ∧ larg1[Int.toNat n5]? = some c23) ∧ (((((UInt8.toNat c20 : Nat) : Int) != ((UInt8.toNat c23 : Nat) : Int)) = true → (((cond (n5 == ((List.length larg0 : Nat)
    : Int)) (n5 == ((List.length larg1 : Nat) : Int)) false) = true → R (Value.int .i64 (0 : Int)) H1) ∧ ((cond (n5 == ((List.length larg0 : Nat) : Int)) (n5 == ((List.length larg1 : Nat) : Int))
    false) = false → (((n5 == ((List.length larg0 : Nat) : Int)) = true → R (Value.int .i64 (-1 : Int)) H1) ∧ ((n5 == ((List.length larg0 : Nat) : Int)) = false → (((n5 == ((List.length larg1 : Nat) :
    Int)) = true → R (Value.int .i64 (1 : Int)) H1) ∧ ((n5 == ((List.length larg1 : Nat) : Int)) = false → ∃ c49 : UInt8, (0 ≤ n5 ∧ larg0[Int.toNat n5]? = some c49) ∧ (((((UInt8.toNat c49 : Nat) :
    Int) == (47 : Int)) = true → R (Value.int .i64 (-1 : Int)) H1) ∧ ((((UInt8.toNat c49 : Nat) : Int) == (47 : Int)) = false → ∃ c54 : UInt8, (0 ≤ n5 ∧ larg1[Int.toNat n5]? = some c54) ∧
    (((((UInt8.toNat c54 : Nat) : Int) == (47 : Int)) = true → R (Value.int .i64 (1 : Int)) H1) ∧ ((((UInt8.toNat c54 : Nat) : Int) == (47 : Int)) = false → ∃ c59 : UInt8, (0 ≤ n5 ∧ larg0[Int.toNat
    n5]? = some c59) ∧ ∃ c62 : UInt8, (0 ≤ n5 ∧ larg1[Int.toNat n5]? = some c62) ∧ (((decide (((UInt8.toNat c59 : Nat) : Int) < ((UInt8.toNat c62 : Nat) : Int))) = true → R (Value.int .i64 (-1 : Int))
    H1) ∧ ((decide (((UInt8.toNat c59 : Nat) : Int) < ((UInt8.toNat c62 : Nat) : Int))) = false → R (Value.int .i64 (1 : Int)) H1))))))))))))) ∧ ((((UInt8.toNat c20 : Nat) : Int) != ((UInt8.toNat c23
    : Nat) : Int)) = false → (∃ n : Int, (Value.int .i64 (IntKind.wrap .i64 (n5 + (1 : Int)))) = Value.int .i64 n) ∧ I2 [(Value.int .i64 (IntKind.wrap .i64 (n5 + (1 : Int))))] H1 ∧ m2 [(Value.int .i64
    (IntKind.wrap .i64 (n5 + (1 : Int))))] H1 < m2 [(Value.int .i64 n5)] H1))) ∧ ((cond (decide (n5 < ((List.length larg0 : Nat) : Int))) (decide (n5 < ((List.length larg1 : Nat) : Int))) false) =
    false → (((cond (n5 == ((List.length larg0 : Nat) : Int)) (n5 == ((List.length larg1 : Nat) : Int)) false) = true → R (Value.int .i64 (0 : Int)) H1) ∧ ((cond (n5 == ((List.length larg0 : Nat) :
    Int)) (n5 == ((List.length larg1 : Nat) : Int)) false) = false → (((n5 == ((List.length larg0 : Nat) : Int)) = true → R (Value.int .i64 (-1 : Int)) H1) ∧ ((n5 == ((List.length larg0 : Nat) : Int))
    = false → (((n5 == ((List.length larg1 : Nat) : Int)) = true → R (Value.int .i64 (1 : Int)) H1) ∧ ((n5 == ((List.length larg1 : Nat) : Int)) = false → ∃ c49_1 : UInt8, (0 ≤ n5 ∧ larg0[Int.toNat
    n5]? = some c49_1) ∧ (((((UInt8.toNat c49_1 : Nat) : Int) == (47 : Int)) = true → R (Value.int .i64 (-1 : Int)) H1) ∧ ((((UInt8.toNat c49_1 : Nat) : Int) == (47 : Int)) = false → ∃ c54_1 : UInt8,
    (0 ≤ n5 ∧ larg1[Int.toNat n5]? = some c54_1) ∧ (((((UInt8.toNat c54_1 : Nat) : Int) == (47 : Int)) = true → R (Value.int .i64 (1 : Int)) H1) ∧ ((((UInt8.toNat c54_1 : Nat) : Int) == (47 : Int)) =
    false → ∃ c59_1 : UInt8, (0 ≤ n5 ∧ larg0[Int.toNat n5]? = some c59_1) ∧ ∃ c62_1 : UInt8, (0 ≤ n5 ∧ larg1[Int.toNat n5]? = some c62_1) ∧ (((decide (((UInt8.toNat c59_1 : Nat) : Int) < ((UInt8.toNat
    c62_1 : Nat) : Int))) = true → R (Value.int .i64 (-1 : Int)) H1) ∧ ((decide (((UInt8.toNat c59_1 : Nat) : Int) < ((UInt8.toNat c62_1 : Nat) : Int))) = false → R (Value.int .i64 (1 : Int))
    H1)))))))))))))))
theorem path_Cmp.eq (larg0 : List UInt8) (larg1 : List UInt8) (R : Value → Heap → Prop) (H0 : Heap) : funcVC Tryd.prog tab fns [] [(2, [(5, 3)])] Tryd.f27 [(Value.string ⟨⟨larg0⟩⟩), (Value.string ⟨⟨larg1⟩⟩)] R H0 = path_Cmp.vc larg0 larg1 R H0 := by kernel_rfl
theorem path_Cmp.ok {larg0 : List UInt8} {larg1 : List UInt8} {R : Value → Heap → Prop} {H0 : Heap} (h : path_Cmp.vc larg0 larg1 R H0) : CallsH Tryd.prog 27 ⟨[(Value.string ⟨⟨larg0⟩⟩), (Value.string ⟨⟨larg1⟩⟩)]⟩ H0 R :=
  funcVC_sound tab_ok fns_ok mixed_ok Tryd.func27 (cast (path_Cmp.eq larg0 larg1 R H0).symm h)

/-- caravan/queue.set -/
def queue_set.vc (aarg0 : Option Addr) (lenarg0 _caparg0 : Nat) (R : Value → Heap → Prop) (H0 : Heap) : Prop :=
  SemH Tryd.prog (Instr.makeMap 47 none) H0 (fun r6 H1 => ∃ (m6 : Option Nat), r6 = (Value.map m6) ∧ ∃ (I3 : List Value → Heap → Prop) (m3 : List Value → Heap → Nat), ((∃ n : Int, (Value.int .i64 (0 :
    Int)) = Value.int .i64 n) ∧ I3 [(Value.int .i64 (0 : Int))] H1) ∧ (∀ (n9 : Int), ∀ H2, I3 [(Value.int .i64 n9)] H2 → (((decide (n9 < ((lenarg0 : Nat) : Int))) = true → ∃ ad11, (aarg0 = some ad11 ∧
    0 ≤ n9 ∧ n9 < ((lenarg0 : Nat) : Int)) ∧ ∃ cs12, RdN H2 (Addr.add ad11 (Int.toNat n9 * 27)) 27 cs12 ∧ ∀ g5 H3, NewB H2 35 (zc 35) g5 H3 → ∃ H4, cs12.size = 27 ∧ wrN H3 ⟨g5, 0, none⟩ cs12.toList 0
    = some H4 ∧ ∃ (l14 : List UInt8), cellAt H4 (Addr.add ⟨g5, 0, none⟩ 0) = some (Value.string ⟨⟨l14⟩⟩) ∧ CallsH Tryd.prog 41 ⟨[(Value.string ⟨⟨l14⟩⟩)]⟩ H4 (fun r15 H5 => ∃ (b15 : Bool), r15 =
    (Value.bool b15) ∧ ∃ (n18 : Int), (b15 = true → cellAt H5 (Addr.add ⟨g5, 0, none⟩ 1) = some (Value.int .i64 n18)) ∧ ∃ (n23 : Int), ((cond b15 (decide (n18 ≥ (1 : Int))) false) = true → cellAt H5
    (Addr.add ⟨g5, 0, none⟩ 1) = some (Value.int .i64 n23)) ∧ (((cond (cond b15 (decide (n18 ≥ (1 : Int))) false) (decide (n23 ≤ (3 : Int))) false) = true → ∃ (l28 : List UInt8), cellAt H5 (Addr.add
    ⟨g5, 0, none⟩ 0) = some (Value.string ⟨⟨l28⟩⟩) ∧ ∃ cs29, RdN H5 ⟨g5, 0, none⟩ 27 cs29 ∧ SemH Tryd.prog (Instr.mapUpdate 47 (Value.map m6) (Value.string ⟨⟨l28⟩⟩) (Value.agg cs29)) H5 (fun _ H6 =>
    (∃ n : Int, (Value.int .i64 (IntKind.wrap .i64 (n9 + (1 : Int)))) = Value.int .i64 n) ∧ I3 [(Value.int .i64 (IntKind.wrap .i64 (n9 + (1 : Int))))] H6 ∧ m3 [(Value.int .i64 (IntKind.wrap .i64 (n9 +
    (1 : Int))))] H6 < m3 [(Value.int .i64 n9)] H2)) ∧ ((cond (cond b15 (decide (n18 ≥ (1 : Int))) false) (decide (n23 ≤ (3 : Int))) false) = false → (∃ n : Int, (Value.int .i64 (IntKind.wrap .i64 (n9
    + (1 : Int)))) = Value.int .i64 n) ∧ I3 [(Value.int .i64 (IntKind.wrap .i64 (n9 + (1 : Int))))] H5 ∧ m3 [(Value.int .i64 (IntKind.wrap .i64 (n9 + (1 : Int))))] H5 < m3 [(Value.int .i64 n9)] H2))))
    ∧ ((decide (n9 < ((lenarg0 : Nat) : Int))) = false → R (Value.map m6) H2))))
theorem queue_set.eq (aarg0 : Option Addr) (lenarg0 caparg0 : Nat) (R : Value → Heap → Prop) (H0 : Heap) : funcVC Tryd.prog tab fns [] [(3, [(9, 3)])] Tryd.f28 [(Value.slice aarg0 lenarg0 caparg0)] R H0 = queue_set.vc aarg0 lenarg0 caparg0 R H0 := by kernel_rfl
theorem queue_set.ok {aarg0 : Option Addr} {lenarg0 caparg0 : Nat} {R : Value → Heap → Prop} {H0 : Heap} (h : queue_set.vc aarg0 lenarg0 caparg0 R H0) : CallsH Tryd.prog 28 ⟨[(Value.slice aarg0 lenarg0 caparg0)]⟩ H0 R :=
  funcVC_sound tab_ok fns_ok mixed_ok Tryd.func28 (cast (queue_set.eq aarg0 lenarg0 caparg0 R H0).symm h)

/-- caravan/queue.inside -/
def queue_inside.vc (marg0 : Option Nat) (R : Value → Heap → Prop) (H0 : Heap) : Prop :=
  SemH Tryd.prog (Instr.makeMap 49 none) H0 (fun r7 H1 => ∃ (m7 : Option Nat), r7 = (Value.map m7) ∧ ∀ g3 H2, NewB H1 49 (zc 49) g3 H2 → ∃ H3, wr1 H2 ⟨g3, 0, none⟩ (Value.map m7) = some H3 ∧ SemH
    Tryd.prog (Instr.range 47 (Value.map marg0)) H3 (fun r10 H4 => ∃ (I4 : List Value → Heap → Prop) (m4 : List Value → Heap → Nat), (I4 [] H4) ∧ (∀ H5, I4 [] H5 → SemH Tryd.prog (Instr.next r10 false
    0) H5 (fun r11 H6 => ∃ (b11 : Bool) (rest11 : List Value), r11 = (Value.tuple ⟨(Value.bool b11) :: rest11⟩) ∧ ((b11 = true → ∃ k13 x13 : Value, HeapV Tryd.prog (Instr.entry r10) H6 (Value.tuple
    ⟨[k13, x13]⟩) ∧ ∃ (l14 : List UInt8), k13 = (Value.string ⟨⟨l14⟩⟩) ∧ ∃ (cs15 : Array Value), x13 = (Value.agg cs15) ∧ ∀ g6 H7, NewB H6 35 (zc 35) g6 H7 → ∃ H8, cs15.size = 27 ∧ wrN H7 ⟨g6, 0,
    none⟩ cs15.toList 0 = some H8 ∧ ∃ (b17 : Bool), cellAt H8 (Addr.add ⟨g6, 0, none⟩ 2) = some (Value.bool b17) ∧ (((!b17) = true → CallsH Tryd.prog 42 ⟨[(Value.string ⟨⟨l14⟩⟩), (Value.pointer (some
    ⟨g3, 0, none⟩))]⟩ H8 (fun r21 H9 => r21 = (Value.tuple ⟨[]⟩) ∧ I4 [] H9 ∧ m4 [] H9 < m4 [] H5)) ∧ ((!b17) = false → I4 [] H8 ∧ m4 [] H8 < m4 [] H5))) ∧ (b11 = false → ∃ (m22 : Option Nat), cellAt
    H6 ⟨g3, 0, none⟩ = some (Value.map m22) ∧ R (Value.map m22) H6))))))
theorem queue_inside.eq (marg0 : Option Nat) (R : Value → Heap → Prop) (H0 : Heap) : funcVC Tryd.prog tab fns [] [(4, [])] Tryd.f29 [(Value.map marg0)] R H0 = queue_inside.vc marg0 R H0 := by kernel_rfl
theorem queue_inside.ok {marg0 : Option Nat} {R : Value → Heap → Prop} {H0 : Heap} (h : queue_inside.vc marg0 R H0) : CallsH Tryd.prog 29 ⟨[(Value.map marg0)]⟩ H0 R :=
  funcVC_sound tab_ok fns_ok mixed_ok Tryd.func29 (cast (queue_inside.eq marg0 R H0).symm h)

/-- caravan/queue.sorted -/
def queue_sorted.vc (marg0 : Option Nat) (R : Value → Heap → Prop) (H0 : Heap) : Prop :=
  SemH Tryd.prog (Instr.range 47 (Value.map marg0)) H0 (fun r7 H1 => ∃ (I3 : List Value → Heap → Prop) (m3 : List Value → Heap → Nat), ((∃ (a : Option Addr) (l c : Nat), (Value.slice none 0 0) =
    Value.slice a l c) ∧ I3 [(Value.slice none 0 0)] H1) ∧ (∀ (a3 : Option Addr) (len3 cap3 : Nat), ∀ H2, I3 [(Value.slice a3 len3 cap3)] H2 → SemH Tryd.prog (Instr.next r7 false 0) H2 (fun r8 H3 => ∃
    (b8 : Bool) (rest8 : List Value), r8 = (Value.tuple ⟨(Value.bool b8) :: rest8⟩) ∧ ((b8 = true → ∃ k10 x10 : Value, HeapV Tryd.prog (Instr.entry r7) H3 (Value.tuple ⟨[k10, x10]⟩) ∧ ∃ (cs11 : Array
    Value), x10 = (Value.agg cs11) ∧ ∀ g5 H4, NewB H3 35 (zc 35) g5 H4 → ∃ H5, cs11.size = 27 ∧ wrN H4 ⟨g5, 0, none⟩ cs11.toList 0 = some H5 ∧ ∃ cs13, RdN H5 ⟨g5, 0, none⟩ 27 cs13 ∧ SemH Tryd.prog
    (Instr.buildSlice 22 1 ⟨[(0, (Value.agg cs13))]⟩) H5 (fun r14 H6 => ∃ (a14 : Option Addr) (len14 cap14 : Nat), r14 = (Value.slice a14 len14 cap14) ∧ SemH Tryd.prog (Builtin.append_ #[22, 22] 22
    ⟨[(Value.slice a3 len3 cap3), (Value.slice a14 len14 cap14)]⟩) H6 (fun r15 H7 => ∃ (a15 : Option Addr) (len15 cap15 : Nat), r15 = (Value.slice a15 len15 cap15) ∧ (∃ (a : Option Addr) (l c : Nat),
    (Value.slice a15 len15 cap15) = Value.slice a l c) ∧ I3 [(Value.slice a15 len15 cap15)] H7 ∧ m3 [(Value.slice a15 len15 cap15)] H7 < m3 [(Value.slice a3 len3 cap3)] H2))) ∧ (b8 = false → CallsH
    Tryd.prog 44 ⟨[(Value.slice a3 len3 cap3), (Value.func (.func 45) ⟨[]⟩ ⟨[]⟩)]⟩ H3 (fun r17 H8 => r17 = (Value.tuple ⟨[]⟩) ∧ R (Value.slice a3 len3 cap3) H8))))))
theorem queue_sorted.eq (marg0 : Option Nat) (R : Value → Heap → Prop) (H0 : Heap) : funcVC Tryd.prog tab fns [] [(3, [(3, 22)])] Tryd.f30 [(Value.map marg0)] R H0 = queue_sorted.vc marg0 R H0 := by kernel_rfl
theorem queue_sorted.ok {marg0 : Option Nat} {R : Value → Heap → Prop} {H0 : Heap} (h : queue_sorted.vc marg0 R H0) : CallsH Tryd.prog 30 ⟨[(Value.map marg0)]⟩ H0 R :=
  funcVC_sound tab_ok fns_ok mixed_ok Tryd.func30 (cast (queue_sorted.eq marg0 R H0).symm h)

/-- caravan/queue.can -/
def queue_can.vc (csarg0 : Array Value) (marg1 : Option Nat) (marg2 : Option Nat) (R : Value → Heap → Prop) (H0 : Heap) : Prop :=
  ∀ g3 H1, NewB H0 35 csarg0 g3 H1 → ∃ (b14 : Bool), cellAt H1 (Addr.add ⟨g3, 0, none⟩ 2) = some (Value.bool b14) ∧ ((b14 = true → ∃ (l18 : List UInt8), cellAt H1 (Addr.add ⟨g3, 0, none⟩ 0) = some
    (Value.string ⟨⟨l18⟩⟩) ∧ ∃ (cs19_0 : Array Value), ∃ (b19_1 : Bool), HeapV Tryd.prog (Instr.lookup 47 (Value.map marg1) (Value.string ⟨⟨l18⟩⟩) true) H1 (Value.tuple ⟨[(Value.agg cs19_0),
    (Value.bool b19_1)]⟩) ∧ ∀ g7 H2, NewB H1 35 (zc 35) g7 H2 → ∃ H3, cs19_0.size = 27 ∧ wrN H2 ⟨g7, 0, none⟩ cs19_0.toList 0 = some H3 ∧ ∃ (b26 : Bool), ((!b19_1) = false → cellAt H3 (Addr.add ⟨g7,
    0, none⟩ 2) = some (Value.bool b26)) ∧ ∃ (l31 : List UInt8), ((cond (!b19_1) true b26) = false → cellAt H3 (Addr.add ⟨g3, 0, none⟩ 0) = some (Value.string ⟨⟨l31⟩⟩)) ∧ ∃ (n32 : Int), ((cond
    (!b19_1) true b26) = false → HeapV Tryd.prog (Instr.lookup 49 (Value.map marg2) (Value.string ⟨⟨l31⟩⟩) false) H3 (Value.int .i64 n32)) ∧ R (Value.bool (cond (cond (!b19_1) true b26) true (n32 ==
    (0 : Int)))) H3) ∧ (b14 = false → ∃ (l36 : List UInt8), cellAt H1 (Addr.add ⟨g3, 0, none⟩ 0) = some (Value.string ⟨⟨l36⟩⟩) ∧ CallsH Tryd.prog 43 ⟨[(Value.string ⟨⟨l36⟩⟩)]⟩ H1 (fun r37 H4 => ∃ (a37
    : Option Addr) (len37 cap37 : Nat), r37 = (Value.slice a37 len37 cap37) ∧ ∃ (I5 : List Value → Heap → Prop) (m5 : List Value → Heap → Nat), ((∃ n : Int, (Value.int .i64 (0 : Int)) = Value.int .i64
    n) ∧ I5 [(Value.int .i64 (0 : Int))] H4) ∧ (∀ (n39 : Int), ∀ H5, I5 [(Value.int .i64 n39)] H5 → (((decide (n39 < ((len37 : Nat) : Int))) = true → ∃ ad41, (a37 = some ad41 ∧ 0 ≤ n39 ∧ n39 < ((len37
    : Nat) : Int)) ∧ ∃ (l42 : List UInt8), cellAt H5 (Addr.add ad41 (Int.toNat n39 * 1)) = some (Value.string ⟨⟨l42⟩⟩) ∧ ∃ (cs46_0 : Array Value), ∃ (b46_1 : Bool), HeapV Tryd.prog (Instr.lookup 47
    (Value.map marg1) (Value.string ⟨⟨l42⟩⟩) true) H5 (Value.tuple ⟨[(Value.agg cs46_0), (Value.bool b46_1)]⟩) ∧ ∀ g11 H6, NewB H5 35 (zc 35) g11 H6 → ∃ H7, cs46_0.size = 27 ∧ wrN H6 ⟨g11, 0, none⟩
    cs46_0.toList 0 = some H7 ∧ ∃ cs49, RdN H7 ⟨g11, 0, none⟩ 27 cs49 ∧ CallsH Tryd.prog 46 ⟨[(Value.agg cs49), (Value.bool b46_1)]⟩ H7 (fun r51 H8 => ∃ (b51 : Bool), r51 = (Value.bool b51) ∧ ((b51 =
    true → R (Value.bool false) H8) ∧ (b51 = false → (∃ n : Int, (Value.int .i64 (IntKind.wrap .i64 (n39 + (1 : Int)))) = Value.int .i64 n) ∧ I5 [(Value.int .i64 (IntKind.wrap .i64 (n39 + (1 :
    Int))))] H8 ∧ m5 [(Value.int .i64 (IntKind.wrap .i64 (n39 + (1 : Int))))] H8 < m5 [(Value.int .i64 n39)] H5)))) ∧ ((decide (n39 < ((len37 : Nat) : Int))) = false → ∃ (n54 : Int), cellAt H5
    (Addr.add ⟨g3, 0, none⟩ 1) = some (Value.int .i64 n54) ∧ ∃ (l59 : List UInt8), ((n54 == (2 : Int)) = false → cellAt H5 (Addr.add ⟨g3, 0, none⟩ 0) = some (Value.string ⟨⟨l59⟩⟩)) ∧ ∃ (n60 : Int),
    ((n54 == (2 : Int)) = false → HeapV Tryd.prog (Instr.lookup 49 (Value.map marg2) (Value.string ⟨⟨l59⟩⟩) false) H5 (Value.int .i64 n60)) ∧ R (Value.bool (cond (n54 == (2 : Int)) true (n60 == (0 :
    Int)))) H5))))))
theorem queue_can.eq (csarg0 : Array Value) (marg1 : Option Nat) (marg2 : Option Nat) (R : Value → Heap → Prop) (H0 : Heap) : funcVC Tryd.prog tab fns [] [(5, [(39, 3)])] Tryd.f31 [(Value.agg csarg0), (Value.map marg1), (Value.map marg2)] R H0 = queue_can.vc csarg0 marg1 marg2 R H0 := by kernel_rfl
theorem queue_can.ok {csarg0 : Array Value} {marg1 : Option Nat} {marg2 : Option Nat} {R : Value → Heap → Prop} {H0 : Heap} (h : queue_can.vc csarg0 marg1 marg2 R H0) : CallsH Tryd.prog 31 ⟨[(Value.agg csarg0), (Value.map marg1), (Value.map marg2)]⟩ H0 R :=
  funcVC_sound tab_ok fns_ok mixed_ok Tryd.func31 (cast (queue_can.eq csarg0 marg1 marg2 R H0).symm h)

/-- slices.Reverse[[]caravan/api.Record,caravan/api.Record] -/
def slices_Reverse_api_Record_api_Record.vc (aarg0 : Option Addr) (lenarg0 _caparg0 : Nat) (R : Value → Heap → Prop) (H0 : Heap) : Prop :=
  ∃ (I1 : List Value → Heap → Prop) (m1 : List Value → Heap → Nat), ((∃ n : Int, (Value.int .i64 (0 : Int)) = Value.int .i64 n) ∧ (∃ n : Int, (Value.int .i64 (IntKind.wrap .i64 (((lenarg0 : Nat) : Int)
    - (1 : Int)))) = Value.int .i64 n) ∧ I1 [(Value.int .i64 (0 : Int)), (Value.int .i64 (IntKind.wrap .i64 (((lenarg0 : Nat) : Int) - (1 : Int))))] H0) ∧ (∀ (n2 : Int) (n3 : Int), ∀ H1, I1
    [(Value.int .i64 n2), (Value.int .i64 n3)] H1 → (((decide (n2 < n3)) = true → ∃ ad20, (aarg0 = some ad20 ∧ 0 ≤ n3 ∧ n3 < ((lenarg0 : Nat) : Int)) ∧ ∃ cs21, RdN H1 (Addr.add ad20 (Int.toNat n3 *
    27)) 27 cs21 ∧ ∃ ad24, (aarg0 = some ad24 ∧ 0 ≤ n2 ∧ n2 < ((lenarg0 : Nat) : Int)) ∧ ∃ cs25, RdN H1 (Addr.add ad24 (Int.toNat n2 * 27)) 27 cs25 ∧ ∃ ad26, (aarg0 = some ad26 ∧ 0 ≤ n2 ∧ n2 <
    ((lenarg0 : Nat) : Int)) ∧ ∃ H2, cs21.size = 27 ∧ wrN H1 (Addr.add ad26 (Int.toNat n2 * 27)) cs21.toList 0 = some H2 ∧ ∃ ad27, (aarg0 = some ad27 ∧ 0 ≤ n3 ∧ n3 < ((lenarg0 : Nat) : Int)) ∧ ∃ H3,
    cs25.size = 27 ∧ wrN H2 (Addr.add ad27 (Int.toNat n3 * 27)) cs25.toList 0 = some H3 ∧ (∃ n : Int, (Value.int .i64 (IntKind.wrap .i64 (n2 + (1 : Int)))) = Value.int .i64 n) ∧ (∃ n : Int, (Value.int
    .i64 (IntKind.wrap .i64 (n3 - (1 : Int)))) = Value.int .i64 n) ∧ I1 [(Value.int .i64 (IntKind.wrap .i64 (n2 + (1 : Int)))), (Value.int .i64 (IntKind.wrap .i64 (n3 - (1 : Int))))] H3 ∧ m1
    [(Value.int .i64 (IntKind.wrap .i64 (n2 + (1 : Int)))), (Value.int .i64 (IntKind.wrap .i64 (n3 - (1 : Int))))] H3 < m1 [(Value.int .i64 n2), (Value.int .i64 n3)] H1) ∧ ((decide (n2 < n3)) = false
    → R (Value.tuple ⟨[]⟩) H1)))
theorem slices_Reverse_api_Record_api_Record.eq (aarg0 : Option Addr) (lenarg0 caparg0 : Nat) (R : Value → Heap → Prop) (H0 : Heap) : funcVC Tryd.prog tab fns [] [(1, [(2, 3), (3, 3)])] Tryd.f32 [(Value.slice aarg0 lenarg0 caparg0)] R H0 = slices_Reverse_api_Record_api_Record.vc aarg0 lenarg0 caparg0 R H0 := by kernel_rfl
theorem slices_Reverse_api_Record_api_Record.ok {aarg0 : Option Addr} {lenarg0 caparg0 : Nat} {R : Value → Heap → Prop} {H0 : Heap} (h : slices_Reverse_api_Record_api_Record.vc aarg0 lenarg0 caparg0 R H0) : CallsH Tryd.prog 32 ⟨[(Value.slice aarg0 lenarg0 caparg0)]⟩ H0 R :=
  funcVC_sound tab_ok fns_ok mixed_ok Tryd.func32 (cast (slices_Reverse_api_Record_api_Record.eq aarg0 lenarg0 caparg0 R H0).symm h)

/-- caravan/caravanref20.Set -/
def caravanref20_Set.vc (aarg0 : Option Addr) (lenarg0 _caparg0 : Nat) (R : Value → Heap → Prop) (H0 : Heap) : Prop :=
  ∃ (I3 : List Value → Heap → Prop) (m3 : List Value → Heap → Nat), ((∃ (a : Option Addr) (l c : Nat), (Value.slice none 0 0) = Value.slice a l c) ∧ (∃ n : Int, (Value.int .i64 (0 : Int)) = Value.int
    .i64 n) ∧ I3 [(Value.slice none 0 0), (Value.int .i64 (0 : Int))] H0) ∧ (∀ (a3 : Option Addr) (len3 cap3 : Nat) (n4 : Int), ∀ H1, I3 [(Value.slice a3 len3 cap3), (Value.int .i64 n4)] H1 →
    (((decide (n4 < ((lenarg0 : Nat) : Int))) = true → ∃ ad15, (aarg0 = some ad15 ∧ 0 ≤ n4 ∧ n4 < ((lenarg0 : Nat) : Int)) ∧ ∃ (l17 : List UInt8), cellAt H1 (Addr.add (Addr.add ad15 (Int.toNat n4 *
    27)) 0) = some (Value.string ⟨⟨l17⟩⟩) ∧ CallsH Tryd.prog 47 ⟨[(Value.string ⟨⟨l17⟩⟩)]⟩ H1 (fun r18 H2 => ∃ (b18 : Bool), r18 = (Value.bool b18) ∧ ∃ ad23, ((!b18) = false → (aarg0 = some ad23 ∧ 0 ≤
    n4 ∧ n4 < ((lenarg0 : Nat) : Int))) ∧ ∃ (n25 : Int), ((!b18) = false → cellAt H2 (Addr.add (Addr.add ad23 (Int.toNat n4 * 27)) 1) = some (Value.int .i64 n25)) ∧ ∃ ad31, ((cond (!b18) true (decide
    (n25 < (1 : Int)))) = false → (aarg0 = some ad31 ∧ 0 ≤ n4 ∧ n4 < ((lenarg0 : Nat) : Int))) ∧ ∃ (n33 : Int), ((cond (!b18) true (decide (n25 < (1 : Int)))) = false → cellAt H2 (Addr.add (Addr.add
    ad31 (Int.toNat n4 * 27)) 1) = some (Value.int .i64 n33)) ∧ (((cond (cond (!b18) true (decide (n25 < (1 : Int)))) true (decide (n33 > (3 : Int)))) = true → (∃ (a : Option Addr) (l c : Nat),
    (Value.slice a3 len3 cap3) = Value.slice a l c) ∧ (∃ n : Int, (Value.int .i64 (IntKind.wrap .i64 (n4 + (1 : Int)))) = Value.int .i64 n) ∧ I3 [(Value.slice a3 len3 cap3), (Value.int .i64
    (IntKind.wrap .i64 (n4 + (1 : Int))))] H2 ∧ m3 [(Value.slice a3 len3 cap3), (Value.int .i64 (IntKind.wrap .i64 (n4 + (1 : Int))))] H2 < m3 [(Value.slice a3 len3 cap3), (Value.int .i64 n4)] H1) ∧
    ((cond (cond (!b18) true (decide (n25 < (1 : Int)))) true (decide (n33 > (3 : Int)))) = false → ∃ (I7 : List Value → Heap → Prop) (m7 : List Value → Heap → Nat), ((∃ n : Int, (Value.int .i64 (0 :
    Int)) = Value.int .i64 n) ∧ I7 [(Value.int .i64 (0 : Int))] H2) ∧ (∀ (n5 : Int), ∀ H3, I7 [(Value.int .i64 n5)] H3 → ∃ ad43, ((decide (n5 < ((len3 : Nat) : Int))) = true → (a3 = some ad43 ∧ 0 ≤ n5
    ∧ n5 < ((len3 : Nat) : Int))) ∧ ∃ (l45 : List UInt8), ((decide (n5 < ((len3 : Nat) : Int))) = true → cellAt H3 (Addr.add (Addr.add ad43 (Int.toNat n5 * 27)) 0) = some (Value.string ⟨⟨l45⟩⟩)) ∧ ∃
    ad48, ((decide (n5 < ((len3 : Nat) : Int))) = true → (aarg0 = some ad48 ∧ 0 ≤ n4 ∧ n4 < ((lenarg0 : Nat) : Int))) ∧ ∃ (l50 : List UInt8), ((decide (n5 < ((len3 : Nat) : Int))) = true → cellAt H3
    (Addr.add (Addr.add ad48 (Int.toNat n4 * 27)) 0) = some (Value.string ⟨⟨l50⟩⟩)) ∧ (((decide (n5 < ((len3 : Nat) : Int))) = true → CallsH Tryd.prog 48 ⟨[(Value.string ⟨⟨l45⟩⟩), (Value.string
    ⟨⟨l50⟩⟩)]⟩ H3 (fun r51 H4 => ∃ (n51 : Int), r51 = (Value.int .i64 n51) ∧ Ext H3 H4 ∧ (((decide (n51 < (0 : Int))) = true → (∃ n : Int, (Value.int .i64 (IntKind.wrap .i64 (n5 + (1 : Int)))) =
    Value.int .i64 n) ∧ I7 [(Value.int .i64 (IntKind.wrap .i64 (n5 + (1 : Int))))] H4 ∧ m7 [(Value.int .i64 (IntKind.wrap .i64 (n5 + (1 : Int))))] H4 < m7 [(Value.int .i64 n5)] H3) ∧ ((decide (n51 <
    (0 : Int))) = false → (0 ≤ n5 ∧ n5 ≤ ((cap3 : Nat) : Int)) ∧ SemH Tryd.prog (Builtin.append_ #[22, 22] 22 ⟨[(Value.slice none 0 0), (Value.slice (if cap3 = 0 then a3 else Option.map (fun z =>
    Addr.add z (0 * 27)) a3) ((Int.toNat n5) - 0) (cap3 - 0))]⟩) H4 (fun r60 H5 => ∃ (a60 : Option Addr) (len60 cap60 : Nat), r60 = (Value.slice a60 len60 cap60) ∧ ∃ ad64, (aarg0 = some ad64 ∧ 0 ≤ n4
    ∧ n4 < ((lenarg0 : Nat) : Int)) ∧ ∃ cs65, RdN H5 (Addr.add ad64 (Int.toNat n4 * 27)) 27 cs65 ∧ SemH Tryd.prog (Instr.buildSlice 22 1 ⟨[(0, (Value.agg cs65))]⟩) H5 (fun r66 H6 => ∃ (a66 : Option
    Addr) (len66 cap66 : Nat), r66 = (Value.slice a66 len66 cap66) ∧ SemH Tryd.prog (Builtin.append_ #[22, 22] 22 ⟨[(Value.slice a60 len60 cap60), (Value.slice a66 len66 cap66)]⟩) H6 (fun r67 H7 => ∃
    (a67 : Option Addr) (len67 cap67 : Nat), r67 = (Value.slice a67 len67 cap67) ∧ ∃ ad75, ((decide (n5 < ((len3 : Nat) : Int))) = true → (a3 = some ad75 ∧ 0 ≤ n5 ∧ n5 < ((len3 : Nat) : Int))) ∧ ∃
    (l77 : List UInt8), ((decide (n5 < ((len3 : Nat) : Int))) = true → cellAt H7 (Addr.add (Addr.add ad75 (Int.toNat n5 * 27)) 0) = some (Value.string ⟨⟨l77⟩⟩)) ∧ ∃ ad80, ((decide (n5 < ((len3 : Nat)
    : Int))) = true → (aarg0 = some ad80 ∧ 0 ≤ n4 ∧ n4 < ((lenarg0 : Nat) : Int))) ∧ ∃ (l82 : List UInt8), ((decide (n5 < ((len3 : Nat) : Int))) = true → cellAt H7 (Addr.add (Addr.add ad80 (Int.toNat
    n4 * 27)) 0) = some (Value.string ⟨⟨l82⟩⟩)) ∧ (((cond (decide (n5 < ((len3 : Nat) : Int))) (l77 == l82) false) = true → (0 ≤ (IntKind.wrap .i64 (n5 + (1 : Int))) ∧ (IntKind.wrap .i64 (n5 + (1 :
    Int))) ≤ ((len3 : Nat) : Int)) ∧ SemH Tryd.prog (Builtin.append_ #[22, 22] 22 ⟨[(Value.slice a67 len67 cap67), (Value.slice (if cap3 = (Int.toNat (IntKind.wrap .i64 (n5 + (1 : Int)))) then a3 else
    Option.map (fun z => Addr.add z ((Int.toNat (IntKind.wrap .i64 (n5 + (1 : Int)))) * 27)) a3) (len3 - (Int.toNat (IntKind.wrap .i64 (n5 + (1 : Int))))) (cap3 - (Int.toNat (IntKind.wrap .i64 (n5 +
    (1 : Int))))))]⟩) H7 (fun r91 H8 => ∃ (a91 : Option Addr) (len91 cap91 : Nat), r91 = (Value.slice a91 len91 cap91) ∧ (∃ (a : Option Addr) (l c : Nat), (Value.slice a91 len91 cap91) = Value.slice a
    l c) ∧ (∃ n : Int, (Value.int .i64 (IntKind.wrap .i64 (n4 + (1 : Int)))) = Value.int .i64 n) ∧ I3 [(Value.slice a91 len91 cap91), (Value.int .i64 (IntKind.wrap .i64 (n4 + (1 : Int))))] H8 ∧ m3
    [(Value.slice a91 len91 cap91), (Value.int .i64 (IntKind.wrap .i64 (n4 + (1 : Int))))] H8 < m3 [(Value.slice a3 len3 cap3), (Value.int .i64 n4)] H1)) ∧ ((cond (decide (n5 < ((len3 : Nat) : Int)))
    (l77 == l82) false) = false → (0 ≤ n5 ∧ n5 ≤ ((len3 : Nat) : Int)) ∧ SemH Tryd.prog (Builtin.append_ #[22, 22] 22 ⟨[(Value.slice a67 len67 cap67), (Value.slice (if cap3 = (Int.toNat n5) then a3
    else Option.map (fun z => Addr.add z ((Int.toNat n5) * 27)) a3) (len3 - (Int.toNat n5)) (cap3 - (Int.toNat n5)))]⟩) H7 (fun r91_1 H9 => ∃ (a91_1 : Option Addr) (len91_1 cap91_1 : Nat), r91_1 =
    (Value.slice a91_1 len91_1 cap91_1) ∧ (∃ (a : Option Addr) (l c : Nat), (Value.slice a91_1 len91_1 cap91_1) = Value.slice a l c) ∧ (∃ n : Int, (Value.int .i64 (IntKind.wrap .i64 (n4 + (1 : Int))))
    = Value.int .i64 n) ∧ I3 [(Value.slice a91_1 len91_1 cap91_1), (Value.int .i64 (IntKind.wrap .i64 (n4 + (1 : Int))))] H9 ∧ m3 [(Value.slice a91_1 len91_1 cap91_1), (Value.int .i64 (IntKind.wrap
    .i64 (n4 + (1 : Int))))] H9 < m3 [(Value.slice a3 len3 cap3), (Value.int .i64 n4)] H1)))))))))) ∧ ((decide (n5 < ((len3 : Nat) : Int))) = false → (0 ≤ n5 ∧ n5 ≤ ((cap3 : Nat) : Int)) ∧ SemH
    Tryd.prog (Builtin.append_ #[22, 22] 22 ⟨[(Value.slice none 0 0), (Value.slice (if cap3 = 0 then a3 else Option.map (fun z => Addr.add z (0 * 27)) a3) ((Int.toNat n5) - 0) (cap3 - 0))]⟩) H3 (fun
    r60_1 H10 => ∃ (a60_1 : Option Addr) (len60_1 cap60_1 : Nat), r60_1 = (Value.slice a60_1 len60_1 cap60_1) ∧ ∃ ad64_1, (aarg0 = some ad64_1 ∧ 0 ≤ n4 ∧ n4 < ((lenarg0 : Nat) : Int)) ∧ ∃ cs65_1, RdN
    H10 (Addr.add ad64_1 (Int.toNat n4 * 27)) 27 cs65_1 ∧ SemH Tryd.prog (Instr.buildSlice 22 1 ⟨[(0, (Value.agg cs65_1))]⟩) H10 (fun r66_1 H11 => ∃ (a66_1 : Option Addr) (len66_1 cap66_1 : Nat),
    r66_1 = (Value.slice a66_1 len66_1 cap66_1) ∧ SemH Tryd.prog (Builtin.append_ #[22, 22] 22 ⟨[(Value.slice a60_1 len60_1 cap60_1), (Value.slice a66_1 len66_1 cap66_1)]⟩) H11 (fun r67_1 H12 => ∃
    (a67_1 : Option Addr) (len67_1 cap67_1 : Nat), r67_1 = (Value.slice a67_1 len67_1 cap67_1) ∧ ∃ ad75_1, ((decide (n5 < ((len3 : Nat) : Int))) = true → (a3 = some ad75_1 ∧ 0 ≤ n5 ∧ n5 < ((len3 :
    Nat) : Int))) ∧ ∃ (l77_1 : List UInt8), ((decide (n5 < ((len3 : Nat) : Int))) = true → cellAt H12 (Addr.add (Addr.add ad75_1 (Int.toNat n5 * 27)) 0) = some (Value.string ⟨⟨l77_1⟩⟩)) ∧ ∃ ad80_1,
    ((decide (n5 < ((len3 : Nat) : Int))) = true → (aarg0 = some ad80_1 ∧ 0 ≤ n4 ∧ n4 < ((lenarg0 : Nat) : Int))) ∧ ∃ (l82_1 : List UInt8), ((decide (n5 < ((len3 : Nat) : Int))) = true → cellAt H12
    (Addr.add (Addr.add ad80_1 (Int.toNat n4 * 27)) 0) = some (Value.string ⟨⟨l82_1⟩⟩)) ∧ (((cond (decide (n5 < ((len3 : Nat) : Int))) (l77_1 == l82_1) false) = true → (0 ≤ (IntKind.wrap .i64 (n5 + (1
    : Int))) ∧ (IntKind.wrap .i64 (n5 + (1 : Int))) ≤ ((len3 : Nat) : Int)) ∧ SemH Tryd.prog (Builtin.append_ #[22, 22] 22 ⟨[(Value.slice a67_1 len67_1 cap67_1), (Value.slice (if cap3 = (Int.toNat
    (IntKind.wrap .i64 (n5 + (1 : Int)))) then a3 else Option.map (fun z => Addr.add z ((Int.toNat (IntKind.wrap .i64 (n5 + (1 : Int)))) * 27)) a3) (len3 - (Int.toNat (IntKind.wrap .i64 (n5 + (1 :
    Int))))) (cap3 - (Int.toNat (IntKind.wrap .i64 (n5 + (1 : Int))))))]⟩) H12 (fun r91_2 H13 => ∃ (a91_2 : Option Addr) (len91_2 cap91_2 : Nat), r91_2 = (Value.slice a91_2 len91_2 cap91_2) ∧ (∃ (a :
    Option Addr) (l c : Nat), (Value.slice a91_2 len91_2 cap91_2) = Value.slice a l c) ∧ (∃ n : Int, (Value.int .i64 (IntKind.wrap .i64 (n4 + (1 : Int)))) = Value.int .i64 n) ∧ I3 [(Value.slice a91_2
    len91_2 cap91_2), (Value.int .i64 (IntKind.wrap .i64 (n4 + (1 : Int))))] H13 ∧ m3 [(Value.slice a91_2 len91_2 cap91_2), (Value.int .i64 (IntKind.wrap .i64 (n4 + (1 : Int))))] H13 < m3
    [(Value.slice a3 len3 cap3), (Value.int .i64 n4)] H1)) ∧ ((cond (decide (n5 < ((len3 : Nat) : Int))) (l77_1 == l82_1) false) = false → (0 ≤ n5 ∧ n5 ≤ ((len3 : Nat) : Int)) ∧ SemH Tryd.prog
    (Builtin.append_ #[22, 22] 22 ⟨[(Value.slice a67_1 len67_1 cap67_1), (Value.slice (if cap3 = (Int.toNat n5) then a3 else Option.map (fun z => Addr.add z ((Int.toNat n5) * 27)) a3) (len3 -
    (Int.toNat n5)) (cap3 - (Int.toNat n5)))]⟩) H12 (fun r91_3 H14 => ∃ (a91_3 : Option Addr) (len91_3 cap91_3 : Nat), r91_3 = (Value.slice a91_3 len91_3 cap91_3) ∧ (∃ (a : Option Addr) (l c : Nat),
    (Value.slice a91_3 len91_3 cap91_3) = Value.slice a l c) ∧ (∃ n : Int, (Value.int .i64 (IntKind.wrap .i64 (n4 + (1 : Int)))) = Value.int .i64 n) ∧ I3 [(Value.slice a91_3 len91_3 cap91_3),
    (Value.int .i64 (IntKind.wrap .i64 (n4 + (1 : Int))))] H14 ∧ m3 [(Value.slice a91_3 len91_3 cap91_3), (Value.int .i64 (IntKind.wrap .i64 (n4 + (1 : Int))))] H14 < m3 [(Value.slice a3 len3 cap3),
    (Value.int .i64 n4)] H1))))))))))))) ∧ ((decide (n4 < ((lenarg0 : Nat) : Int))) = false → R (Value.slice a3 len3 cap3) H1)))
theorem caravanref20_Set.eq (aarg0 : Option Addr) (lenarg0 caparg0 : Nat) (R : Value → Heap → Prop) (H0 : Heap) : funcVC Tryd.prog tab fns [] [(3, [(3, 22), (4, 3)]), (7, [(5, 3)])] Tryd.f33 [(Value.slice aarg0 lenarg0 caparg0)] R H0 = caravanref20_Set.vc aarg0 lenarg0 caparg0 R H0 := by kernel_rfl
theorem caravanref20_Set.ok {aarg0 : Option Addr} {lenarg0 caparg0 : Nat} {R : Value → Heap → Prop} {H0 : Heap} (h : caravanref20_Set.vc aarg0 lenarg0 caparg0 R H0) : CallsH Tryd.prog 33 ⟨[(Value.slice aarg0 lenarg0 caparg0)]⟩ H0 R :=
  funcVC_sound tab_ok fns_ok mixed_ok Tryd.func33 (cast (caravanref20_Set.eq aarg0 lenarg0 caparg0 R H0).symm h)

/-- caravan/caravanref20.Can -/
def caravanref20_Can.vc (csarg0 : Array Value) (aarg1 : Option Addr) (lenarg1 caparg1 : Nat) (R : Value → Heap → Prop) (H0 : Heap) : Prop :=
  ∀ g2 H1, NewB H0 35 csarg0 g2 H1 → ∃ (b10 : Bool), cellAt H1 (Addr.add ⟨g2, 0, none⟩ 2) = some (Value.bool b10) ∧ ((b10 = true → ∃ (l14 : List UInt8), cellAt H1 (Addr.add ⟨g2, 0, none⟩ 0) = some
    (Value.string ⟨⟨l14⟩⟩) ∧ CallsH Tryd.prog 49 ⟨[(Value.slice aarg1 lenarg1 caparg1), (Value.string ⟨⟨l14⟩⟩)]⟩ H1 (fun r15 H2 => ∃ (cs15_0 : Array Value), ∃ (b15_1 : Bool), r15 = (Value.tuple
    ⟨[(Value.agg cs15_0), (Value.bool b15_1)]⟩) ∧ ∀ g5 H3, NewB H2 35 (zc 35) g5 H3 → ∃ H4, cs15_0.size = 27 ∧ wrN H3 ⟨g5, 0, none⟩ cs15_0.toList 0 = some H4 ∧ ∃ (b22 : Bool), ((!b15_1) = false →
    cellAt H4 (Addr.add ⟨g5, 0, none⟩ 2) = some (Value.bool b22)) ∧ ∃ (l27 : List UInt8), ((cond (!b15_1) true b22) = false → cellAt H4 (Addr.add ⟨g2, 0, none⟩ 0) = some (Value.string ⟨⟨l27⟩⟩)) ∧
    (((cond (!b15_1) true b22) = true → R (Value.bool true) H4) ∧ ((cond (!b15_1) true b22) = false → CallsH Tryd.prog 37 ⟨[(Value.slice aarg1 lenarg1 caparg1), (Value.string ⟨⟨l27⟩⟩)]⟩ H4 (fun r28 H5
    => ∃ (b28 : Bool), r28 = (Value.bool b28) ∧ R (Value.bool (!b28)) H5))))) ∧ (b10 = false → ∃ (I5 : List Value → Heap → Prop) (m5 : List Value → Heap → Nat), ((∃ n : Int, (Value.int .i64 (0 : Int))
    = Value.int .i64 n) ∧ I5 [(Value.int .i64 (0 : Int))] H1) ∧ (∀ (n7 : Int), ∀ H6, I5 [(Value.int .i64 n7)] H6 → (((decide (n7 < ((lenarg1 : Nat) : Int))) = true → ∃ ad39, (aarg1 = some ad39 ∧ 0 ≤
    n7 ∧ n7 < ((lenarg1 : Nat) : Int)) ∧ ∃ cs40, RdN H6 (Addr.add ad39 (Int.toNat n7 * 27)) 27 cs40 ∧ ∀ g8 H7, NewB H6 35 (zc 35) g8 H7 → ∃ H8, cs40.size = 27 ∧ wrN H7 ⟨g8, 0, none⟩ cs40.toList 0 =
    some H8 ∧ ∃ (b42 : Bool), cellAt H8 (Addr.add ⟨g8, 0, none⟩ 2) = some (Value.bool b42) ∧ ∃ (n46 : Int), ((!b42) = true → cellAt H8 (Addr.add ⟨g8, 0, none⟩ 1) = some (Value.int .i64 n46)) ∧ ∃ (l51
    : List UInt8), ((cond (!b42) (n46 != (2 : Int)) false) = true → cellAt H8 (Addr.add ⟨g2, 0, none⟩ 0) = some (Value.string ⟨⟨l51⟩⟩)) ∧ ∃ (l53 : List UInt8), ((cond (!b42) (n46 != (2 : Int)) false)
    = true → cellAt H8 (Addr.add ⟨g8, 0, none⟩ 0) = some (Value.string ⟨⟨l53⟩⟩)) ∧ (((cond (!b42) (n46 != (2 : Int)) false) = true → CallsH Tryd.prog 50 ⟨[(Value.string ⟨⟨l51⟩⟩), (Value.string
    ⟨⟨l53⟩⟩)]⟩ H8 (fun r54 H9 => ∃ (b54 : Bool), r54 = (Value.bool b54) ∧ ((b54 = true → R (Value.bool false) H9) ∧ (b54 = false → (∃ n : Int, (Value.int .i64 (IntKind.wrap .i64 (n7 + (1 : Int)))) =
    Value.int .i64 n) ∧ I5 [(Value.int .i64 (IntKind.wrap .i64 (n7 + (1 : Int))))] H9 ∧ m5 [(Value.int .i64 (IntKind.wrap .i64 (n7 + (1 : Int))))] H9 < m5 [(Value.int .i64 n7)] H6)))) ∧ ((cond (!b42)
    (n46 != (2 : Int)) false) = false → (∃ n : Int, (Value.int .i64 (IntKind.wrap .i64 (n7 + (1 : Int)))) = Value.int .i64 n) ∧ I5 [(Value.int .i64 (IntKind.wrap .i64 (n7 + (1 : Int))))] H8 ∧ m5
    [(Value.int .i64 (IntKind.wrap .i64 (n7 + (1 : Int))))] H8 < m5 [(Value.int .i64 n7)] H6))) ∧ ((decide (n7 < ((lenarg1 : Nat) : Int))) = false → ∃ (n57 : Int), cellAt H6 (Addr.add ⟨g2, 0, none⟩ 1)
    = some (Value.int .i64 n57) ∧ ∃ (l62 : List UInt8), ((n57 == (2 : Int)) = false → cellAt H6 (Addr.add ⟨g2, 0, none⟩ 0) = some (Value.string ⟨⟨l62⟩⟩)) ∧ (((n57 == (2 : Int)) = true → R (Value.bool
    true) H6) ∧ ((n57 == (2 : Int)) = false → CallsH Tryd.prog 37 ⟨[(Value.slice aarg1 lenarg1 caparg1), (Value.string ⟨⟨l62⟩⟩)]⟩ H6 (fun r63 H10 => ∃ (b63 : Bool), r63 = (Value.bool b63) ∧ R
    (Value.bool (!b63)) H10))))))))
theorem caravanref20_Can.eq (csarg0 : Array Value) (aarg1 : Option Addr) (lenarg1 caparg1 : Nat) (R : Value → Heap → Prop) (H0 : Heap) : funcVC Tryd.prog tab fns [] [(5, [(7, 3)])] Tryd.f34 [(Value.agg csarg0), (Value.slice aarg1 lenarg1 caparg1)] R H0 = caravanref20_Can.vc csarg0 aarg1 lenarg1 caparg1 R H0 := by kernel_rfl
theorem caravanref20_Can.ok {csarg0 : Array Value} {aarg1 : Option Addr} {lenarg1 caparg1 : Nat} {R : Value → Heap → Prop} {H0 : Heap} (h : caravanref20_Can.vc csarg0 aarg1 lenarg1 caparg1 R H0) : CallsH Tryd.prog 34 ⟨[(Value.agg csarg0), (Value.slice aarg1 lenarg1 caparg1)]⟩ H0 R :=
  funcVC_sound tab_ok fns_ok mixed_ok Tryd.func34 (cast (caravanref20_Can.eq csarg0 aarg1 lenarg1 caparg1 R H0).symm h)

/-- caravan/caravanref06.Whole -/
def caravanref06_Whole.vc (csarg0 : Array Value) (csarg1 : Array Value) (R : Value → Heap → Prop) (H0 : Heap) : Prop :=
  ∀ g2 H1, NewB H0 35 csarg0 g2 H1 → ∀ g3 H2, NewB H1 35 csarg1 g3 H2 → ∃ (n6 : Int), cellAt H2 (Addr.add ⟨g2, 0, none⟩ 25) = some (Value.int .i64 n6) ∧ ∃ (n8 : Int), cellAt H2 (Addr.add ⟨g3, 0, none⟩
    25) = some (Value.int .i64 n8) ∧ ∃ cs11, ((n6 == n8) = true → RdN H2 ⟨g2, 0, none⟩ 27 cs11) ∧ ∃ cs12, ((n6 == n8) = true → RdN H2 ⟨g3, 0, none⟩ 27 cs12) ∧ (((n6 == n8) = true → CallsH Tryd.prog 51
    ⟨[(Value.agg cs11), (Value.agg cs12)]⟩ H2 (fun r13 H3 => ∃ (b13 : Bool), r13 = (Value.bool b13) ∧ R (Value.bool b13) H3)) ∧ ((n6 == n8) = false → R (Value.bool false) H2))
theorem caravanref06_Whole.eq (csarg0 : Array Value) (csarg1 : Array Value) (R : Value → Heap → Prop) (H0 : Heap) : funcVC Tryd.prog tab fns [] [] Tryd.f35 [(Value.agg csarg0), (Value.agg csarg1)] R H0 = caravanref06_Whole.vc csarg0 csarg1 R H0 := by kernel_rfl
theorem caravanref06_Whole.ok {csarg0 : Array Value} {csarg1 : Array Value} {R : Value → Heap → Prop} {H0 : Heap} (h : caravanref06_Whole.vc csarg0 csarg1 R H0) : CallsH Tryd.prog 35 ⟨[(Value.agg csarg0), (Value.agg csarg1)]⟩ H0 R :=
  funcVC_sound tab_ok fns_ok mixed_ok Tryd.func35 (cast (caravanref06_Whole.eq csarg0 csarg1 R H0).symm h)

/-- caravan/queue.aim -/
def queue_aim.vc (aarg0 : Option Addr) (lenarg0 caparg0 : Nat) (aarg1 : Option Addr) (lenarg1 caparg1 : Nat) (R : Value → Heap → Prop) (H0 : Heap) : Prop :=
  CallsH Tryd.prog 28 ⟨[(Value.slice aarg1 lenarg1 caparg1)]⟩ H0 (fun r9 H1 => ∃ (m9 : Option Nat), r9 = (Value.map m9) ∧ CallsH Tryd.prog 28 ⟨[(Value.slice aarg0 lenarg0 caparg0)]⟩ H1 (fun r11 H2 => ∃
    (m11 : Option Nat), r11 = (Value.map m11) ∧ SemH Tryd.prog (Instr.range 47 (Value.map m11)) H2 (fun r12 H3 => ∃ (I3 : List Value → Heap → Prop) (m3 : List Value → Heap → Nat), (I3 [] H3) ∧ (∀ H4,
    I3 [] H4 → SemH Tryd.prog (Instr.next r12 false 0) H4 (fun r13 H5 => ∃ (b13 : Bool) (rest13 : List Value), r13 = (Value.tuple ⟨(Value.bool b13) :: rest13⟩) ∧ ((b13 = true → ∃ k15 x15 : Value,
    HeapV Tryd.prog (Instr.entry r12) H5 (Value.tuple ⟨[k15, x15]⟩) ∧ ∃ (l16 : List UInt8), k15 = (Value.string ⟨⟨l16⟩⟩) ∧ ∃ (cs17 : Array Value), x15 = (Value.agg cs17) ∧ ∀ g7 H6, NewB H5 35 (zc 35)
    g7 H6 → ∃ H7, cs17.size = 27 ∧ wrN H6 ⟨g7, 0, none⟩ cs17.toList 0 = some H7 ∧ ∃ cs20, RdN H7 ⟨g7, 0, none⟩ 27 cs20 ∧ SemH Tryd.prog (Instr.mapUpdate 47 (Value.map m9) (Value.string ⟨⟨l16⟩⟩)
    (Value.agg cs20)) H7 (fun _ H8 => I3 [] H8 ∧ m3 [] H8 < m3 [] H4)) ∧ (b13 = false → R (Value.map m9) H5)))))))
theorem queue_aim.eq (aarg0 : Option Addr) (lenarg0 caparg0 : Nat) (aarg1 : Option Addr) (lenarg1 caparg1 : Nat) (R : Value → Heap → Prop) (H0 : Heap) : funcVC Tryd.prog tab fns [] [(3, [])] Tryd.f36 [(Value.slice aarg0 lenarg0 caparg0), (Value.slice aarg1 lenarg1 caparg1)] R H0 = queue_aim.vc aarg0 lenarg0 caparg0 aarg1 lenarg1 caparg1 R H0 := by kernel_rfl
theorem queue_aim.ok {aarg0 : Option Addr} {lenarg0 caparg0 : Nat} {aarg1 : Option Addr} {lenarg1 caparg1 : Nat} {R : Value → Heap → Prop} {H0 : Heap} (h : queue_aim.vc aarg0 lenarg0 caparg0 aarg1 lenarg1 caparg1 R H0) : CallsH Tryd.prog 36 ⟨[(Value.slice aarg0 lenarg0 caparg0), (Value.slice aarg1 lenarg1 caparg1)]⟩ H0 R :=
  funcVC_sound tab_ok fns_ok mixed_ok Tryd.func36 (cast (queue_aim.eq aarg0 lenarg0 caparg0 aarg1 lenarg1 caparg1 R H0).symm h)

/-- caravan/caravanref20.inside -/
def caravanref20_inside.vc (aarg0 : Option Addr) (lenarg0 _caparg0 : Nat) (larg1 : List UInt8) (R : Value → Heap → Prop) (H0 : Heap) : Prop :=
  ∃ (I2 : List Value → Heap → Prop) (m2 : List Value → Heap → Nat), ((∃ n : Int, (Value.int .i64 (0 : Int)) = Value.int .i64 n) ∧ I2 [(Value.int .i64 (0 : Int))] H0) ∧ (∀ (n5 : Int), ∀ H1, I2
    [(Value.int .i64 n5)] H1 → (((decide (n5 < ((lenarg0 : Nat) : Int))) = true → ∃ ad14, (aarg0 = some ad14 ∧ 0 ≤ n5 ∧ n5 < ((lenarg0 : Nat) : Int)) ∧ ∃ (b16 : Bool), cellAt H1 (Addr.add (Addr.add
    ad14 (Int.toNat n5 * 27)) 2) = some (Value.bool b16) ∧ ∃ ad21, ((!b16) = true → (aarg0 = some ad21 ∧ 0 ≤ n5 ∧ n5 < ((lenarg0 : Nat) : Int))) ∧ ∃ (l23 : List UInt8), ((!b16) = true → cellAt H1
    (Addr.add (Addr.add ad21 (Int.toNat n5 * 27)) 0) = some (Value.string ⟨⟨l23⟩⟩)) ∧ (((!b16) = true → CallsH Tryd.prog 50 ⟨[(Value.string ⟨⟨l23⟩⟩), (Value.string ⟨⟨larg1⟩⟩)]⟩ H1 (fun r25 H2 => ∃
    (b25 : Bool), r25 = (Value.bool b25) ∧ ((b25 = true → R (Value.bool true) H2) ∧ (b25 = false → (∃ n : Int, (Value.int .i64 (IntKind.wrap .i64 (n5 + (1 : Int)))) = Value.int .i64 n) ∧ I2
    [(Value.int .i64 (IntKind.wrap .i64 (n5 + (1 : Int))))] H2 ∧ m2 [(Value.int .i64 (IntKind.wrap .i64 (n5 + (1 : Int))))] H2 < m2 [(Value.int .i64 n5)] H1)))) ∧ ((!b16) = false → (∃ n : Int,
    (Value.int .i64 (IntKind.wrap .i64 (n5 + (1 : Int)))) = Value.int .i64 n) ∧ I2 [(Value.int .i64 (IntKind.wrap .i64 (n5 + (1 : Int))))] H1 ∧ m2 [(Value.int .i64 (IntKind.wrap .i64 (n5 + (1 :
    Int))))] H1 < m2 [(Value.int .i64 n5)] H1))) ∧ ((decide (n5 < ((lenarg0 : Nat) : Int))) = false → R (Value.bool false) H1)))
theorem caravanref20_inside.eq (aarg0 : Option Addr) (lenarg0 caparg0 : Nat) (larg1 : List UInt8) (R : Value → Heap → Prop) (H0 : Heap) : funcVC Tryd.prog tab fns [] [(2, [(5, 3)])] Tryd.f37 [(Value.slice aarg0 lenarg0 caparg0), (Value.string ⟨⟨larg1⟩⟩)] R H0 = caravanref20_inside.vc aarg0 lenarg0 caparg0 larg1 R H0 := by kernel_rfl
theorem caravanref20_inside.ok {aarg0 : Option Addr} {lenarg0 caparg0 : Nat} {larg1 : List UInt8} {R : Value → Heap → Prop} {H0 : Heap} (h : caravanref20_inside.vc aarg0 lenarg0 caparg0 larg1 R H0) : CallsH Tryd.prog 37 ⟨[(Value.slice aarg0 lenarg0 caparg0), (Value.string ⟨⟨larg1⟩⟩)]⟩ H0 R :=
  funcVC_sound tab_ok fns_ok mixed_ok Tryd.func37 (cast (caravanref20_inside.eq aarg0 lenarg0 caparg0 larg1 R H0).symm h)

/-- caravan/path.Within -/
def path_Within.vc (larg0 : List UInt8) (larg1 : List UInt8) (R : Value → Heap → Prop) (H0 : Heap) : Prop :=
  CallsH Tryd.prog 41 ⟨[(Value.string ⟨⟨larg0⟩⟩)]⟩ H0 (fun r6 H1 => ∃ (b6 : Bool), r6 = (Value.bool b6) ∧ (((!b6) = true → R (Value.bool false) H1) ∧ ((!b6) = false → (((larg1 == []) = true → R
    (Value.bool true) H1) ∧ ((larg1 == []) = false → CallsH Tryd.prog 41 ⟨[(Value.string ⟨⟨larg1⟩⟩)]⟩ H1 (fun r12 H2 => ∃ (b12 : Bool), r12 = (Value.bool b12) ∧ (b12 = true → ((List.length larg1 +
    List.length [47] : Nat) : Int) ≤ 9223372036854775807) ∧ ((b12 = true → CallsH Tryd.prog 52 ⟨[(Value.string ⟨⟨larg0⟩⟩), (Value.string ⟨⟨larg1 ++ [47]⟩⟩)]⟩ H2 (fun r17 H3 => ∃ (b17 : Bool), r17 =
    (Value.bool b17) ∧ R (Value.bool b17) H3)) ∧ (b12 = false → R (Value.bool false) H2))))))))
theorem path_Within.eq (larg0 : List UInt8) (larg1 : List UInt8) (R : Value → Heap → Prop) (H0 : Heap) : funcVC Tryd.prog tab fns [] [] Tryd.f38 [(Value.string ⟨⟨larg0⟩⟩), (Value.string ⟨⟨larg1⟩⟩)] R H0 = path_Within.vc larg0 larg1 R H0 := by kernel_rfl
theorem path_Within.ok {larg0 : List UInt8} {larg1 : List UInt8} {R : Value → Heap → Prop} {H0 : Heap} (h : path_Within.vc larg0 larg1 R H0) : CallsH Tryd.prog 38 ⟨[(Value.string ⟨⟨larg0⟩⟩), (Value.string ⟨⟨larg1⟩⟩)]⟩ H0 R :=
  funcVC_sound tab_ok fns_ok mixed_ok Tryd.func38 (cast (path_Within.eq larg0 larg1 R H0).symm h)

end Go.Proofs.YtoemipeomingaaaDoor
