/- The operations that only compute or read: what each asks and gives, and that the model agrees. -/
import Derived.Test.YtoemipeomingaaaDoorVcgB
namespace Go.V
open Go

def kEq : IntKind → IntKind → Bool
  | .i8, .i8 | .i16, .i16 | .i32, .i32 | .i64, .i64 | .u8, .u8 | .u16, .u16 | .u32, .u32 | .u64, .u64 => true
  | _, _ => false
theorem kEq_eq {k k' : IntKind} (h : kEq k k' = true) : k = k' := by cases k <;> cases k' <;> first | rfl | cases h

def ibit (op : BinOp) (k : IntKind) (a b : Int) : Int :=
  let x := BitVec.ofInt k.bits a
  let y := BitVec.ofInt k.bits b
  match op with
  | .and => k.wrap (x &&& y).toNat
  | .or => k.wrap (x ||| y).toNat
  | .xor => k.wrap (x ^^^ y).toNat
  | _ => k.wrap (x &&& ~~~y).toNat

def binInt (U : Prop → Prop) (op : BinOp) (k : IntKind) (a b : Int) (F : Value → Prop) : Prop :=
  match op with
  | .add => F (.int k (k.wrap (a + b)))
  | .sub => F (.int k (k.wrap (a - b)))
  | .mul => F (.int k (k.wrap (a * b)))
  | .quo => U (b ≠ 0) ∧ F (.int k (k.wrap (a.tdiv b)))
  | .rem => U (b ≠ 0) ∧ F (.int k (a.tmod b))
  | .and => F (.int k (ibit .and k a b))
  | .or => F (.int k (ibit .or k a b))
  | .xor => F (.int k (ibit .xor k a b))
  | .andNot => F (.int k (ibit .andNot k a b))
  | .shl => U (0 ≤ b) ∧ F (.int k (k.wrap (a * 2 ^ (min b.toNat k.bits))))
  | .shr => U (0 ≤ b) ∧ F (.int k (a.fdiv (2 ^ (min b.toNat k.bits))))
  | .eql => F (.bool (a == b))
  | .neq => F (.bool (a != b))
  | .lss => F (.bool (decide (a < b)))
  | .leq => F (.bool (decide (a ≤ b)))
  | .gtr => F (.bool (decide (a > b)))
  | .geq => F (.bool (decide (a ≥ b)))
def isShift : BinOp → Bool
  | .shl | .shr => true
  | _ => false
def binStr (U : Prop → Prop) (op : BinOp) (s t : List UInt8) (F : Value → Prop) : Prop :=
  match op with
  | .add => U (((s.length + t.length : Nat) : Int) ≤ 9223372036854775807) ∧ F (.string ⟨⟨s ++ t⟩⟩)
  | .eql => F (.bool (s == t))
  | .neq => F (.bool (!(s == t)))
  | .lss => F (.bool (Op.bytesLess s t))
  | .leq => F (.bool (Op.bytesLess s t || s == t))
  | .gtr => F (.bool (!(Op.bytesLess s t || s == t)))
  | .geq => F (.bool (!(Op.bytesLess s t)))
  | _ => False
/-- '==' of two structs or arrays -/
def EqA (P : Program) (t : Nat) (xs ys : Array Value) (b : Bool) : Prop :=
  PureV P (eqGuard .eql t (.tmp 0) (.tmp 0) (.agg xs) (.agg ys)) () ∧ PureV P (Op.equal t (.agg xs) (.agg ys)) b
def eqBool (op : BinOp) (b : Bool) (F : Value → Prop) : Prop :=
  match op with
  | .eql => F (.bool b)
  | .neq => F (.bool (!b))
  | _ => False
def descOf (T : Tab) (t : Nat) : TypeDesc :=
  match tget T t with
  | some i => i.desc
  | none => .invalid
def nilable : TypeDesc → Bool
  | .pointer _ | .slice _ | .map _ _ => true
  | _ => false
def binVC (P : Program) (T : Tab) (U : Prop → Prop) (op : BinOp) (t : Nat) (x y : Value) (F : Value → Prop) : Prop :=
  match x, y with
  | .int k a, .int k' b => match isShift op || kEq k k' with
    | true => binInt U op k a b F
    | false => False
  | .string s, .string u => binStr U op s.data.toList u.data.toList F
  | .bool a, .bool b => match descOf T t with
    | .bool => eqBool op (a == b) F
    | _ => False
  | .pointer a, .pointer none => match descOf T t with
    | .pointer _ => eqBool op a.isNone F
    | _ => False
  | .slice a _ _, .slice none _ _ => match descOf T t with
    | .slice _ => eqBool op a.isNone F
    | _ => False
  | .map a, .map none => match descOf T t with
    | .map _ _ => eqBool op a.isNone F
    | _ => False
  | .agg xs, .agg ys => ∃ b, U (EqA P t xs ys b) ∧ eqBool op b F
  | _, _ => False

theorem descOf_und {P : Program} {T : Tab} (hT : TabOk P T) {t : Nat} {d : TypeDesc} (h : descOf T t = d) (hd : d ≠ .invalid) : P.underlying t = some d := by
  unfold descOf at h
  split at h
  · rename_i i hi; rw [← h]; exact hT.und t i hi
  · exact absurd h.symm hd

section
variable {P : Program} {T : Tab} {c : Prop} {U : Prop → Prop}

theorem eqBool_sound {op : BinOp} {b : Bool} {F : Value → Prop} {t : Nat} {x y : Operand} {u v : Value} (h : eqBool op b F)
    (hg : c → ∀ op, op = .eql ∨ op = .neq → PureV P (eqGuard op t x y u v) ()) (he : c → PureV P (Op.equal t u v) b)
    (h1 : ∀ op, op = .eql ∨ op = .neq → binOp op t u v = (match op with | .eql => (do pure (.bool (← Op.equal t u v)) : Sem Value) | _ => (do pure (.bool (!(← Op.equal t u v)))))) :
    ∃ r, F r ∧ (c → PureV P (do eqGuard op t x y u v; binOp op t u v) r) := by
  cases op <;> simp only [eqBool] at h <;> first
    | exact h.elim
    | (refine ⟨_, h, fun hc w => ?_⟩
       simp [hg hc _ (.inl rfl) w, h1 _ (.inl rfl), he hc w]
       done)
    | (refine ⟨_, h, fun hc w => ?_⟩
       simp [hg hc _ (.inr rfl) w, h1 _ (.inr rfl), he hc w]
       done)

theorem binInt_sound (hU : c → ∀ X, U X → X) {op : BinOp} {k k' : IntKind} {a b : Int} {F : Value → Prop} {t : Nat} {x y : Operand} (hk : (isShift op || kEq k k') = true) (h : binInt U op k a b F) :
    ∃ r, F r ∧ (c → PureV P (do eqGuard op t x y (.int k a) (.int k' b); binOp op t (.int k a) (.int k' b)) r) := by
  cases op <;> simp only [binInt] at h <;> simp only [isShift, Bool.false_or, Bool.true_or] at hk <;> (try (have hk' := kEq_eq hk; subst hk')) <;> first
    | (obtain ⟨ho, hF⟩ := h
       refine ⟨_, hF, fun hc w => ?_⟩
       have ho := hU hc _ ho
       simp [eqGuard_at_int, binOp, Op.intDiv, Op.shift, ho]
       done)
    | (obtain ⟨ho, hF⟩ := h
       refine ⟨_, hF, fun hc w => ?_⟩
       have ho := hU hc _ ho
       simp [eqGuard_at_int, binOp, Op.shift, Int.not_lt.2 ho]
       done)
    | (refine ⟨_, h, fun hc w => ?_⟩
       simp [eqGuard_at_int, binOp, Op.intArith, Op.intBits, Op.intCmp, ibit]
       done)

theorem binStr_sound (hU : c → ∀ X, U X → X) {op : BinOp} {s u : ByteArray} {F : Value → Prop} {t : Nat} {x y : Operand} (h : binStr U op s.data.toList u.data.toList F) :
    ∃ r, F r ∧ (c → PureV P (do eqGuard op t x y (.string s) (.string u); binOp op t (.string s) (.string u)) r) := by
  cases op <;> simp only [binStr] at h <;> first
    | exact h.elim
    | (obtain ⟨ho, hF⟩ := h
       refine ⟨_, hF, fun hc w => ?_⟩
       have ho := hU hc _ ho
       have hs : s ++ u = ⟨⟨s.data.toList ++ u.data.toList⟩⟩ := by
         apply ByteArray.ext
         rw [ByteArray.data_append]
         apply Array.ext'
         simp
       have ho' : ¬ ((9223372036854775807 : Int) < ((s.size + u.size : Nat) : Int)) := by
         have e1 : s.data.toList.length = s.size := by cases s; rfl
         have e2 : u.data.toList.length = u.size := by cases u; rfl
         rw [← e1, ← e2]; omega
       simp only [eqGuard_at_string, binOp, Op.stringOp, Sem.run_bind, Sem.run_pure, Result.andThen_ok, IntKind.max_i64, gt_iff_lt]
       rw [if_neg ho', Sem.run_pure, hs]
       done)
    | (refine ⟨_, h, fun hc w => ?_⟩
       simp [eqGuard_at_string, binOp, Op.stringOp, ByteArray.toList_eq]
       done)

theorem eqIn_bool {t : Nat} (hu : P.underlying t = some .bool) (d : Nat) (a b : Bool) (w : World) : (Op.equalIn (d + 1) t (.bool a) (.bool b)).run P w = .ok (a == b) w := by
  simp only [Op.equalIn, Sem.run_bind, run_underlying hu, Result.andThen_ok, Sem.run_pure]
theorem eqIn_ptr {t e : Nat} (hu : P.underlying t = some (.pointer e)) (d : Nat) (a : Option Addr) (w : World) : (Op.equalIn (d + 1) t (.pointer a) (.pointer none)).run P w = .ok a.isNone w := by
  cases a <;> simp only [Op.equalIn, Sem.run_bind, run_underlying hu, Result.andThen_ok, Sem.run_pure, Option.isNone]
theorem eqIn_slice {t e : Nat} (hu : P.underlying t = some (.slice e)) (d : Nat) (a : Option Addr) (l c' l' c'' : Nat) (w : World) : (Op.equalIn (d + 1) t (.slice a l c') (.slice none l' c'')).run P w = .ok a.isNone w := by
  cases a <;> simp only [Op.equalIn, Sem.run_bind, run_underlying hu, Result.andThen_ok, Sem.run_pure, Option.isNone]
theorem eqIn_map {t e f : Nat} (hu : P.underlying t = some (.map e f)) (d : Nat) (a : Option Nat) (w : World) : (Op.equalIn (d + 1) t (.map a) (.map none)).run P w = .ok a.isNone w := by
  cases a <;> simp only [Op.equalIn, Sem.run_bind, run_underlying hu, Result.andThen_ok, Sem.run_pure, Option.isNone]

theorem binVC_sound (hT : TabOk P T) (hU : c → ∀ X, U X → X) {op : BinOp} {t : Nat} {u v : Value} {F : Value → Prop} {x y : Operand} (h : binVC P T U op t u v F) :
    ∃ r, F r ∧ (c → PureV P (do eqGuard op t x y u v; binOp op t u v) r) := by
  unfold binVC at h
  split at h
  · split at h
    · rename_i hk; exact binInt_sound hU hk h
    · exact h.elim
  · exact binStr_sound hU h
  · split at h
    · rename_i hd
      have hu := descOf_und hT hd (by simp)
      exact eqBool_sound h (fun _ op _ w => by rw [eqGuard_at_bool]; rfl) (fun _ w => eqIn_bool hu 9999 _ _ w) (fun op ho => by rcases ho with rfl | rfl <;> rfl)
    · exact h.elim
  · split at h
    · rename_i a _ hd
      have hu := descOf_und hT hd (by simp)
      refine eqBool_sound h (fun _ op _ w => by rw [eqGuard_at_pointer]; rfl) (fun _ w => ?_) (fun op ho => by rcases ho with rfl | rfl <;> cases a <;> rfl)
      exact eqIn_ptr hu 9999 _ w
    · exact h.elim
  · split at h
    · rename_i a _ _ _ _ _ hd
      have hu := descOf_und hT hd (by simp)
      refine eqBool_sound h (fun _ op _ w => by rw [eqGuard_at_slice]; rfl) (fun _ w => ?_) (fun op ho => by rcases ho with rfl | rfl <;> rfl)
      exact eqIn_slice hu 9999 _ _ _ _ _ w
    · exact h.elim
  · split at h
    · rename_i a _ _ hd
      have hu := descOf_und hT hd (by simp)
      refine eqBool_sound h (fun _ op _ w => by rw [eqGuard_at_map]; rfl) (fun _ w => ?_) (fun op ho => by rcases ho with rfl | rfl <;> rfl)
      exact eqIn_map hu 9999 _ w
    · exact h.elim
  · obtain ⟨b, hb, hF⟩ := h
    refine eqBool_sound hF (fun hc op ho w => ?_) (fun hc => (hU hc _ hb).2) (fun op ho => by rcases ho with rfl | rfl <;> rfl)
    have h1 := (hU hc _ hb).1 w
    rcases ho with rfl | rfl
    · exact h1
    · exact h1
  · exact h.elim
end
end Go.V
