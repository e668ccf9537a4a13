/- All operations that only compute or read. -/
import Derived.Test.YtoemipeomingaaaDoorVcgC
namespace Go.V
open Go

def evs (ρ : Operand → Option Value) : List Operand → Option (List Value)
  | [] => some []
  | x :: r => match ρ x with
    | some v => match evs ρ r with
      | some vs => some (v :: vs)
      | none => none
    | none => none
theorem evs_sound {ρ : Operand → Option Value} {ev : Operand → Value} (h : ∀ x v, ρ x = some v → ev x = v) : ∀ (l : List Operand) (vs : List Value), evs ρ l = some vs → l.map ev = vs
  | [], vs, e => by cases e; rfl
  | x :: r, vs, e => by
    unfold evs at e
    split at e
    · rename_i v hv
      split at e
      · rename_i us hu
        cases e
        simp [h x v hv, evs_sound h r us hu]
      · cases e
    · cases e
def evp (ρ : Operand → Option Value) : List (Nat × Operand) → Option (List (Nat × Value))
  | [] => some []
  | (i, x) :: r => match ρ x with
    | some v => match evp ρ r with
      | some vs => some ((i, v) :: vs)
      | none => none
    | none => none
theorem evp_sound {ρ : Operand → Option Value} {ev : Operand → Value} (h : ∀ x v, ρ x = some v → ev x = v) : ∀ (l : List (Nat × Operand)) (vs : List (Nat × Value)), evp ρ l = some vs → l.map (fun p => (p.1, ev p.2)) = vs
  | [], vs, e => by cases e; rfl
  | (i, x) :: r, vs, e => by
    unfold evp at e
    split at e
    · rename_i v hv
      split at e
      · rename_i us hu
        cases e
        simp [h x v hv, evp_sound h r us hu]
      · cases e
    · cases e
def evo (ρ : Operand → Option Value) : Option Operand → Option (Option Value)
  | none => some none
  | some x => match ρ x with
    | some v => some (some v)
    | none => none
theorem evo_sound {ρ : Operand → Option Value} {ev : Operand → Value} (h : ∀ x v, ρ x = some v → ev x = v) {o : Option Operand} {r : Option Value} (e : evo ρ o = some r) : o.map ev = r := by
  unfold evo at e
  split at e
  · cases e; rfl
  · split at e
    · rename_i v hv; cases e; simp [h _ v hv]
    · cases e

def ldVC (T : Tab) (U : Prop → Prop) (H : Heap) (t : Nat) (ad : Addr) (F : Value → Prop) : Prop :=
  match tget T t with
  | some i => match isAggD i.desc with
    | true => ∃ cs, U (RdN H ad i.size cs) ∧ F (.agg cs)
    | false => ex1 T t fun v => U (cellAt H ad = some v) ∧ F v
  | none => False
def bnd (U : Prop → Prop) (x : Option Value) (dflt top : Nat) (F : Nat → Prop) : Prop :=
  match x with
  | none => F dflt
  | some (.int _ i) => U (0 ≤ i ∧ i ≤ (top : Int)) ∧ F i.toNat
  | _ => False
def bnds (U : Prop → Prop) (len cap : Nat) (lo hi mx : Option Value) (F : Nat → Nat → Nat → Prop) : Prop :=
  match hi, mx with
  | none, some _ => False
  | _, _ => bnd U mx cap cap fun m => bnd U hi len m fun h => bnd U lo 0 h fun l => F l h m
def sliceVC (T : Tab) (U : Prop → Prop) (t : Nat) (x : Value) (lo hi mx : Option Value) (F : Value → Prop) : Prop :=
  match descOf T t, x with
  | .array n e, .pointer (some a) => match tget T e with
    | some ie => bnds U n n lo hi mx fun l h m => F (.slice (some (if m = l then a else a.add (l * ie.size))) (h - l) (m - l))
    | none => False
  | .string, .string s => match mx with
    | none => bnds U s.data.toList.length s.data.toList.length lo hi none fun l h _ => F (.string ⟨⟨(s.data.toList.drop l).take (h - l)⟩⟩)
    | some _ => False
  | .slice e, .slice a n c => match tget T e with
    | some ie => bnds U n c lo hi mx fun l h m => F (.slice (if m = l then a else a.map (·.add (l * ie.size))) (h - l) (m - l))
    | none => False
  | _, _ => False
def lenVC (P : Program) (T : Tab) (U : Prop → Prop) (H : Heap) (t ty : Nat) (x : Value) (F : Value → Prop) : Prop :=
  match descOf T t, x with
  | .string, .string s => F (.int .i64 s.data.toList.length)
  | .slice _, .slice _ n _ => F (.int .i64 n)
  | .array n _, _ => F (.int .i64 n)
  | .map _ _, .map r => ∃ n : Nat, U (HeapV P (Builtin.len_ #[t] ty #[.map r]) H (.int .i64 n)) ∧ F (.int .i64 n)
  | _, _ => False
def callVC (P : Program) (T : Tab) (U : Prop → Prop) (H : Heap) (b : Builtin) (ats : Array TypeId) (ty : TypeId) (vs : List Value) (F : Value → Prop) : Prop :=
  match b, ats.toList, vs with
  | .len, [t], [x] => lenVC P T U H t ty x F
  | .cap, [t], [.slice _ _ c] => match descOf T t with
    | .slice _ => F (.int .i64 c)
    | _ => False
  | .max, _, [.int k a, .int _ b] => F (.int k (if b > a then b else a))
  | .min, _, [.int k a, .int _ b] => F (.int k (if b < a then b else a))
  | _, _, _ => False
def convVC (P : Program) (T : Tab) (U : Prop → Prop) (H : Heap) (s d : Nat) (x : Value) (F : Value → Prop) : Prop :=
  match tget T s with
  | some _ => match descOf T d, x with
    | .int k, .int _ n => F (.int k (k.wrap n))
    | .string, .string b => F (.string b)
    | .string, .slice a n c => ∃ l : List UInt8, U (HeapV P (convert s d (.slice a n c)) H (.string ⟨⟨l⟩⟩)) ∧ F (.string ⟨⟨l⟩⟩)
    | _, _ => False
  | none => False
def indexVC (T : Tab) (U : Prop → Prop) (t : Nat) (x i : Value) (F : Value → Prop) : Prop :=
  match descOf T t, x, i with
  | .array n e, .agg cs, .int _ m => match tget T e with
    | some ie => match isAggD ie.desc with
      | true => U (0 ≤ m ∧ m < (n : Int)) ∧ F (.agg (cs.extract (m.toNat * ie.size) (m.toNat * ie.size + ie.size)))
      | false => ex1 T e fun v => U (0 ≤ m ∧ m < (n : Int) ∧ cs[m.toNat * ie.size]? = some v) ∧ F v
    | none => False
  | .string, .string s, .int _ m => ∃ b : UInt8, U (0 ≤ m ∧ s.data.toList[m.toNat]? = some b) ∧ F (.int .u8 b.toNat)
  | _, _, _ => False
def fieldVC (T : Tab) (U : Prop → Prop) (t : Nat) (x : Value) (f : Nat) (F : Value → Prop) : Prop :=
  match descOf T t, x with
  | .struct fs, .agg cs => match fs[f]? with
    | some fl => match tget T fl.type with
      | some ie => match isAggD ie.desc with
        | true => F (.agg (cs.extract fl.offset (fl.offset + ie.size)))
        | false => ex1 T fl.type fun v => U (cs[fl.offset]? = some v) ∧ F v
      | none => False
    | none => False
  | _, _ => False
def indexAddrVC (T : Tab) (U : Prop → Prop) (t : Nat) (x i : Value) (F : Value → Prop) : Prop :=
  match descOf T t, x, i with
  | .array n e, .pointer (some a), .int _ m => match tget T e with
    | some ie => U (0 ≤ m ∧ m < (n : Int)) ∧ F (.pointer (some (a.add (m.toNat * ie.size))))
    | none => False
  | .slice e, .slice a l _, .int _ m => match tget T e with
    | some ie => ∃ ad, U (a = some ad ∧ 0 ≤ m ∧ m < (l : Int)) ∧ F (.pointer (some (ad.add (m.toNat * ie.size))))
    | none => False
  | _, _, _ => False
def fieldAddrVC (T : Tab) (t : Nat) (x : Value) (f : Nat) (F : Value → Prop) : Prop :=
  match descOf T t, x with
  | .struct fs, .pointer (some a) => match fs[f]? with
    | some fl => match tget T fl.type with
      | some ie => match ie.size with
        | 0 => False
        | _ + 1 => F (.pointer (some (a.add fl.offset)))
      | none => False
    | none => False
  | _, _ => False

def stabVC (P : Program) (T : Tab) (U : Prop → Prop) (ρ : Operand → Option Value) (H : Heap) (o : Oper) (F : Value → Prop) : Prop :=
  match o.op with
  | .move x => match ρ x with
    | some v => F v
    | none => False
  | .assign x => match ρ x with
    | some v => F v
    | none => False
  | .nilCheck x => match ρ x with
    | some (.pointer a) => ∃ ad, U (a = some ad) ∧ F (.pointer (some ad))
    | some (.func (.func f) p c) => F (.func (.func f) p c)
    | _ => False
  | .binOp op t x y _ => match ρ x, ρ y with
    | some u, some v => binVC P T U op t u v F
    | _, _ => False
  | .unOp op _ x => match op, ρ x with
    | .not, some (.bool b) => F (.bool (!b))
    | .neg, some (.int k n) => F (.int k (k.wrap (0 - n)))
    | .xor, some (.int k n) => F (.int k (ibit .xor k (if k.signed then -1 else k.max) n))
    | _, _ => False
  | .convert s d x => match ρ x with
    | some v => convVC P T U H s d v F
    | none => False
  | .makeFunc fn first captured => match evs ρ first.toList, evs ρ captured.toList with
    | some p, some c => F (.func fn ⟨p⟩ ⟨c⟩)
    | _, _ => False
  | .slice t x lo hi mx => match ρ x, evo ρ lo, evo ρ hi, evo ρ mx with
    | some v, some l, some h, some m => sliceVC T U t v l h m F
    | _, _, _, _ => False
  | .fieldAddr t x f => match ρ x with
    | some v => fieldAddrVC T t v f F
    | none => False
  | .field t x f => match ρ x with
    | some v => fieldVC T U t v f F
    | none => False
  | .indexAddr t x i => match ρ x, ρ i with
    | some u, some v => indexAddrVC T U t u v F
    | _, _ => False
  | .index t x i => match ρ x, ρ i with
    | some u, some v => indexVC T U t u v F
    | _, _ => False
  | .load t x => match ρ x with
    | some (.pointer (some ad)) => ldVC T U H t ad F
    | _ => False
  | .extract x i => match ρ x with
    | some (.tuple vs) => match vs[i]? with
      | some v => F v
      | none => False
    | _ => False
  | .lookup t m k ok => match ρ m, ρ k with
    | some u, some v => exTy T o.type fun r => U (HeapV P (Instr.lookup t u v ok) H r) ∧ F r
    | _, _ => False
  | .entry it => match ρ it with
    | some u => ∃ k v : Value, U (HeapV P (Instr.entry u) H (.tuple ⟨[k, v]⟩)) ∧ F (.tuple ⟨[k, v]⟩)
    | none => False
  | .build t ps => match evp ρ ps.toList with
    | some vs => exTy T t fun r => U (PureV P (Instr.build t ⟨vs⟩) r) ∧ F r
    | none => False
  | .call c => match c.callee with
    | .builtin b => match evs ρ c.args.toList with
      | some vs => callVC P T U H b c.argTypes o.type vs F
      | none => False
    | _ => False
  | _ => False

section
variable {P : Program} {T : Tab} {c : Prop} {U : Prop → Prop}

theorem ldVC_sound (hT : TabOk P T) (hU : c → ∀ X, U X → X) {H : Heap} {t : Nat} {ad : Addr} {F : Value → Prop} (h : ldVC T U H t ad F) :
    ∃ v, F v ∧ (c → HeapV P (loadVar t ad) H v) := by
  unfold ldVC at h
  split at h
  · rename_i i hi
    split at h
    · rename_i ha
      obtain ⟨cs, h1, h2⟩ := h
      exact ⟨_, h2, fun hc w hw => run_loadVar_agg hT hi ha ((hU hc _ h1).ext hw)⟩
    · rename_i ha
      obtain ⟨v, h1, h2⟩ := ex1_out h
      exact ⟨_, h2, fun hc w hw => run_loadVar_one hT hi ha (hw.cell (hU hc _ h1))⟩
  · exact h.elim

theorem bnd_sound (hU : c → ∀ X, U X → X) {x : Option Value} {dflt top : Nat} {F : Nat → Prop} (h : bnd U x dflt top F) (code : BoundsCode := .index) :
    ∃ n, F n ∧ (x = none → n = dflt) ∧ (c → ∀ v, x = some v → PureV P (Instr.sliceBound v top code) n) := by
  unfold bnd at h
  split at h
  · exact ⟨_, h, fun _ => rfl, fun _ v hv => by cases hv⟩
  · rename_i k i
    refine ⟨_, h.2, fun e => (nomatch e), fun hc v hv w => ?_⟩
    cases hv
    exact run_sliceBound w k i top code (hU hc _ h.1).1 (hU hc _ h.1).2
  · exact h.elim

theorem bnds_sound (hU : c → ∀ X, U X → X) {len cap : Nat} {lo hi mx : Option Value} {F : Nat → Nat → Nat → Prop} (h : bnds U len cap lo hi mx F) (isS : Bool) :
    ∃ l h' m, F l h' m ∧ (c → PureV P (Instr.sliceBounds isS len cap lo hi mx) (l, h', m)) := by
  have h2 : ¬ (hi = none ∧ ∃ v, mx = some v) ∧ (bnd U mx cap cap fun m => bnd U hi len m fun h => bnd U lo 0 h fun l => F l h m) := by
    unfold bnds at h
    split at h
    · exact h.elim
    · rename_i hn
      exact ⟨fun ⟨e1, v, e2⟩ => hn v e1 e2, h⟩
  obtain ⟨hno, h⟩ := h2
  obtain ⟨m, hm, m0, m1⟩ := bnd_sound (P := P) hU h (if isS then .slice3Acap else .slice3Alen)
  obtain ⟨hh, hhh, h0, h1⟩ := bnd_sound (P := P) hU hm (if mx.isSome then .slice3B else (if isS then .sliceAcap else .sliceAlen))
  obtain ⟨l, hl, l0, l1⟩ := bnd_sound (P := P) hU hhh (if mx.isSome then .slice3C else .sliceB)
  refine ⟨l, hh, m, hl, fun hc w => ?_⟩
  unfold Instr.sliceBounds
  cases mx with
  | none =>
    have e := m0 rfl
    subst e
    cases hi with
    | none =>
      have e := h0 rfl
      subst e
      cases lo with
      | none => have e := l0 rfl; subst e; simp
      | some v =>
        have := l1 hc v rfl w
        simp only [Option.isSome_none, Bool.false_eq_true, if_false] at this
        simp [this]
    | some u =>
      have hu := h1 hc u rfl w
      simp only [Option.isSome_none, Bool.false_eq_true, if_false] at hu
      cases lo with
      | none => have e := l0 rfl; subst e; simp [hu]
      | some v =>
        have := l1 hc v rfl w
        simp only [Option.isSome_none, Bool.false_eq_true, if_false] at this
        simp [hu, this]
  | some x =>
    have hx := m1 hc x rfl w
    cases hi with
    | none => exact absurd ⟨rfl, x, rfl⟩ hno
    | some u =>
      have hu := h1 hc u rfl w
      simp only [Option.isSome_some, if_true] at hu
      cases lo with
      | none => have e := l0 rfl; subst e; simp [hx, hu]
      | some v =>
        have := l1 hc v rfl w
        simp only [Option.isSome_some, if_true] at this
        simp [hx, hu, this]

theorem size_data (s : ByteArray) : s.data.toList.length = s.size := by cases s; rfl
theorem mk_toList (s : ByteArray) (l : List UInt8) (h : s.data.toList = l) : s = ⟨⟨l⟩⟩ := by
  cases s with
  | mk d => cases d; simp at h; subst h; rfl

theorem sliceVC_sound (hT : TabOk P T) (hU : c → ∀ X, U X → X) {t : Nat} {x : Value} {lo hi mx : Option Value} {F : Value → Prop} (h : sliceVC T U t x lo hi mx F) :
    ∃ v, F v ∧ (c → PureV P (Instr.sliceAt t x lo hi mx) v) := by
  unfold sliceVC at h
  split at h
  · rename_i n e a hd
    have hu := descOf_und hT hd (by simp)
    split at h
    · rename_i ie hie
      obtain ⟨j, hj, hs, _, _⟩ := hT.info e ie hie
      obtain ⟨l, hh, m, hF, hb⟩ := bnds_sound (P := P) hU h false
      refine ⟨_, hF, fun hc w => ?_⟩
      simp [Instr.sliceAt, run_underlying hu, Instr.sureAddr, hb hc w, run_sizeOf hj, hs]
    · exact h.elim
  · rename_i s hd
    have hu := descOf_und hT hd (by simp)
    split at h
    · obtain ⟨l, hh, m, hF, hb⟩ := bnds_sound (P := P) hU h false
      refine ⟨_, hF, fun hc w => ?_⟩
      have hb := hb hc w
      rw [size_data] at hb
      have e : s.extract l hh = ⟨⟨(s.data.toList.drop l).take (hh - l)⟩⟩ := mk_toList _ _ (Lib.extract_data s l hh)
      simp [Instr.sliceAt, Instr.slice, run_underlying hu, hb, e]
    · exact h.elim
  · rename_i e a n c' hd
    have hu := descOf_und hT hd (by simp)
    split at h
    · rename_i ie hie
      obtain ⟨j, hj, hs, _, _⟩ := hT.info e ie hie
      obtain ⟨l, hh, m, hF, hb⟩ := bnds_sound (P := P) hU h true
      refine ⟨_, hF, fun hc w => ?_⟩
      simp [Instr.sliceAt, Instr.slice, run_underlying hu, hb hc w, run_sizeOf hj, hs]
    · exact h.elim
  · exact h.elim

theorem lenVC_sound (hT : TabOk P T) (hU : c → ∀ X, U X → X) {H : Heap} {t ty : Nat} {x : Value} {F : Value → Prop} (h : lenVC P T U H t ty x F) :
    ∃ v, F v ∧ (c → HeapV P (Builtin.len_ #[t] ty #[x]) H v) := by
  unfold lenVC at h
  split at h
  · rename_i s hd
    have hu := descOf_und hT hd (by simp)
    exact ⟨_, h, fun hc w _ => by simp [Builtin.len_, run_underlying hu, goInt]⟩
  · rename_i hd
    have hu := descOf_und hT hd (by simp)
    exact ⟨_, h, fun hc w _ => by simp [Builtin.len_, run_underlying hu, goInt]⟩
  · rename_i hd
    have hu := descOf_und hT hd (by simp)
    exact ⟨_, h, fun hc w _ => by simp [Builtin.len_, run_underlying hu, goInt]⟩
  · obtain ⟨n, h1, h2⟩ := h
    exact ⟨_, h2, fun hc => hU hc _ h1⟩
  · exact h.elim

theorem callVC_sound (hT : TabOk P T) (hU : c → ∀ X, U X → X) {H : Heap} {b : Builtin} {ats : Array TypeId} {ty : TypeId} {vs : List Value} {F : Value → Prop} (h : callVC P T U H b ats ty vs F) :
    ∃ v, F v ∧ (c → ∀ cs : Array Bool, HeapV P (builtin b ats ty cs ⟨vs⟩) H (.value v)) := by
  obtain ⟨ats⟩ := ats
  unfold callVC at h
  split at h
  · rename_i t x ht
    dsimp only at ht
    subst ht
    obtain ⟨v, hF, hv⟩ := lenVC_sound hT hU h
    exact ⟨v, hF, fun hc cs w hw => by simp [builtin, hv hc w hw]⟩
  · rename_i t _ _ c' ht
    dsimp only at ht
    subst ht
    split at h
    · rename_i hd
      have hu := descOf_und hT hd (by simp)
      exact ⟨_, h, fun hc cs w _ => by simp [builtin, Builtin.cap_, run_underlying hu, goInt]⟩
    · exact h.elim
  · exact ⟨_, h, fun hc cs w _ => by simp [builtin, Builtin.max_, Builtin.max2]⟩
  · exact ⟨_, h, fun hc cs w _ => by simp [builtin, Builtin.min_, Builtin.min2]⟩
  · exact h.elim

theorem convVC_sound (hT : TabOk P T) (hU : c → ∀ X, U X → X) {H : Heap} {s d : Nat} {x : Value} {F : Value → Prop} (h : convVC P T U H s d x F) :
    ∃ v, F v ∧ (c → HeapV P (convert s d x) H v) := by
  unfold convVC at h
  split at h
  · rename_i i hi
    have hs := hT.und s i hi
    split at h
    · rename_i hd
      have hu := descOf_und hT hd (by simp)
      exact ⟨_, h, fun hc w _ => by simp [convert, run_underlying hs, run_underlying hu, Conv.intToInt]⟩
    · rename_i hd
      have hu := descOf_und hT hd (by simp)
      exact ⟨_, h, fun hc w _ => by simp [convert, run_underlying hs, run_underlying hu]⟩
    · obtain ⟨n, h1, h2⟩ := h
      exact ⟨_, h2, fun hc => hU hc _ h1⟩
    · exact h.elim
  · exact h.elim

theorem run_part_agg (hT : TabOk P T) {e : Nat} {ie : Ty} (hie : tget T e = some ie) (ha : isAggD ie.desc = true) (cs : Array Value) (off : Nat) (w : World) :
    (part e cs off).run P w = .ok (.agg (cs.extract off (off + ie.size))) w := by
  obtain ⟨j, hj, hs, _, _⟩ := hT.info e ie hie
  simp [part, run_isAgg (hT.und e ie hie), ha, run_sizeOf hj, hs]
theorem run_part_one (hT : TabOk P T) {e : Nat} {ie : Ty} (hie : tget T e = some ie) (ha : isAggD ie.desc = false) {cs : Array Value} {off : Nat} {v : Value} (hv : cs[off]? = some v) (w : World) :
    (part e cs off).run P w = .ok v w := by
  simp [part, run_isAgg (hT.und e ie hie), ha, hv]

theorem indexVC_sound (hT : TabOk P T) (hU : c → ∀ X, U X → X) {t : Nat} {x i : Value} {F : Value → Prop} (h : indexVC T U t x i F) :
    ∃ v, F v ∧ (c → PureV P (Instr.index t x i) v) := by
  unfold indexVC at h
  split at h
  · rename_i n e cs k m hd
    have hu := descOf_und hT hd (by simp)
    split at h
    · rename_i ie hie
      obtain ⟨j, hj, hs, _, _⟩ := hT.info e ie hie
      split at h
      · rename_i ha
        exact ⟨_, h.2, fun hc w => by
          simp only [Instr.index, asIntOf, Sem.run_bind, Sem.run_pure, Result.andThen_ok, run_underlying hu, Sem.run_ite, run_sizeOf hj, hs, run_part_agg hT hie ha]
          rw [if_pos (hU hc _ h.1)]⟩
      · rename_i ha
        obtain ⟨v, h1, h2⟩ := ex1_out h
        exact ⟨_, h2, fun hc w => by
          have h1 := hU hc _ h1
          simp only [Instr.index, asIntOf, Sem.run_bind, Sem.run_pure, Result.andThen_ok, run_underlying hu, Sem.run_ite, run_sizeOf hj, hs, run_part_one hT hie ha h1.2.2]
          rw [if_pos ⟨h1.1, h1.2.1⟩]⟩
    · exact h.elim
  · rename_i s k m hd
    have hu := descOf_und hT hd (by simp)
    obtain ⟨b, h1, h2⟩ := h
    refine ⟨_, h2, fun hc w => ?_⟩
    have h1 := hU hc _ h1
    have hlt : m.toNat < s.data.toList.length := by
      rcases Nat.lt_or_ge m.toNat s.data.toList.length with hl | hl
      · exact hl
      · rw [List.getElem?_eq_none hl] at h1; cases h1.2
    have hb : s[m.toNat]? = some b := by
      rw [ByteArray.getElem?_lt' s _ (by rw [← size_data]; exact hlt)]
      rw [List.getElem?_eq_getElem hlt] at h1
      have := h1.2
      rw [Option.some.injEq] at this ⊢
      rw [← this]; rfl
    simp only [Instr.index, asIntOf, Sem.run_bind, Sem.run_pure, Result.andThen_ok, run_underlying hu, if_pos h1.1, hb]
  · exact h.elim

theorem fieldVC_sound (hT : TabOk P T) (hU : c → ∀ X, U X → X) {t f : Nat} {x : Value} {F : Value → Prop} (h : fieldVC T U t x f F) :
    ∃ v, F v ∧ (c → PureV P (Instr.field t x f) v) := by
  unfold fieldVC at h
  split at h
  · rename_i fs cs hd
    have hu := descOf_und hT hd (by simp)
    split at h
    · rename_i fl hfl
      split at h
      · rename_i ie hie
        split at h
        · rename_i ha
          exact ⟨_, h, fun hc w => by simp [Instr.field, run_underlying hu, hfl, asAgg, run_part_agg hT hie ha]⟩
        · rename_i ha
          obtain ⟨v, h1, h2⟩ := ex1_out h
          exact ⟨_, h2, fun hc w => by simp [Instr.field, run_underlying hu, hfl, asAgg, run_part_one hT hie ha (hU hc _ h1)]⟩
      · exact h.elim
    · exact h.elim
  · exact h.elim

theorem indexAddrVC_sound (hT : TabOk P T) (hU : c → ∀ X, U X → X) {t : Nat} {x i : Value} {F : Value → Prop} (h : indexAddrVC T U t x i F) :
    ∃ v, F v ∧ (c → PureV P (Instr.indexAt t x i) v) := by
  unfold indexAddrVC at h
  split at h
  · rename_i n e a k m hd
    have hu := descOf_und hT hd (by simp)
    split at h
    · rename_i ie hie
      obtain ⟨j, hj, hs, _, _⟩ := hT.info e ie hie
      exact ⟨_, h.2, fun hc w => by
        simp only [Instr.indexAt, asIntOf, Sem.run_bind, Sem.run_pure, Result.andThen_ok, run_underlying hu, Instr.sureAddr, Sem.run_ite, run_sizeOf hj, hs]
        rw [if_pos (hU hc _ h.1)]⟩
    · exact h.elim
  · rename_i e a l c' k m hd
    have hu := descOf_und hT hd (by simp)
    split at h
    · rename_i ie hie
      obtain ⟨j, hj, hs, _, _⟩ := hT.info e ie hie
      obtain ⟨ad, h1, h2⟩ := h
      exact ⟨_, h2, fun hc w => by
        have h1 := hU hc _ h1
        rw [h1.1]
        simp only [Instr.indexAt, asIntOf, Sem.run_bind, Sem.run_pure, Result.andThen_ok, run_underlying hu, Sem.run_ite, run_sizeOf hj, hs]
        rw [if_pos h1.2]⟩
    · exact h.elim
  · exact h.elim

theorem fieldAddrVC_sound (hT : TabOk P T) {t f : Nat} {x : Value} {F : Value → Prop} (h : fieldAddrVC T t x f F) :
    ∃ v, F v ∧ PureV P (Instr.fieldAt t x f) v := by
  unfold fieldAddrVC at h
  split at h
  · rename_i fs a hd
    have hu := descOf_und hT hd (by simp)
    split at h
    · rename_i fl hfl
      split at h
      · rename_i ie hie
        obtain ⟨j, hj, hs, _, _⟩ := hT.info _ ie hie
        split at h
        · exact h.elim
        · rename_i n hn
          exact ⟨_, h, fun w => by simp [Instr.fieldAt, run_underlying hu, hfl, Instr.sureAddr, fieldPlace, run_sizeOf hj, hs, hn]⟩
      · exact h.elim
    · exact h.elim
  · exact h.elim

theorem PureV.heap {α : Type} {s : Sem α} {v : α} (h : PureV P s v) (H : Heap) : HeapV P s H v := fun w _ => h w
theorem HeapV.next {s : Sem Value} {H : Heap} {v : Value} (h : HeapV P s H v) : HeapV P (do pure (.value (← s)) : Sem Next) H (.value v) := fun w hw => by
  rw [Sem.run_bind, h w hw]; rfl

theorem stab_sound (hT : TabOk P T) (hU : c → ∀ X, U X → X) {ρ : Operand → Option Value} {ev : Operand → Value} (hρ : c → ∀ x v, ρ x = some v → ev x = v) {H : Heap} {o : Oper} {F : Value → Prop}
    (h : stabVC P T U ρ H o F) : ∃ v, F v ∧ (c → HeapV P (execOp ev o) H (.value v)) := by
  obtain ⟨dst, op, ty, pos, after, guard⟩ := o
  unfold stabVC at h
  dsimp only at h
  split at h
  · rename_i x
    split at h
    · rename_i v hv
      exact ⟨_, h, fun hc w _ => by simp [execOp, hρ hc _ _ hv]⟩
    · exact h.elim
  · rename_i x
    split at h
    · rename_i v hv
      exact ⟨_, h, fun hc w _ => by simp [execOp, hρ hc _ _ hv]⟩
    · exact h.elim
  · rename_i x
    split at h
    · rename_i a hv
      obtain ⟨ad, h1, h2⟩ := h
      exact ⟨_, h2, fun hc w _ => by simp [execOp, hρ hc _ _ hv, hU hc _ h1]⟩
    · rename_i hv
      exact ⟨_, h, fun hc w _ => by simp [execOp, hρ hc _ _ hv]⟩
    · exact h.elim
  · split at h
    · rename_i u v hu hv
      obtain ⟨r, hF, hr⟩ := binVC_sound hT hU (x := _) (y := _) h
      refine ⟨r, hF, fun hc => ?_⟩
      have := (hr hc).heap H
      simp only [execOp, hρ hc _ _ hu, hρ hc _ _ hv]
      exact this.next
    · exact h.elim
  · split at h
    · rename_i hx
      exact ⟨_, h, fun hc w _ => by simp [execOp, hρ hc _ _ hx, Op.unary]⟩
    · rename_i hx
      exact ⟨_, h, fun hc w _ => by simp [execOp, hρ hc _ _ hx, Op.unary, Op.intArith]⟩
    · rename_i hx
      exact ⟨_, h, fun hc w _ => by simp [execOp, hρ hc _ _ hx, Op.unary, Op.intBits, ibit]⟩
    · exact h.elim
  · split at h
    · rename_i v hv
      obtain ⟨r, hF, hr⟩ := convVC_sound hT hU h
      exact ⟨r, hF, fun hc => by simp only [execOp, hρ hc _ _ hv]; exact (hr hc).next⟩
    · exact h.elim
  · split at h
    · rename_i p c' hp hc'
      refine ⟨_, h, fun hc w _ => ?_⟩
      have e1 := evs_sound (hρ hc) _ _ hp
      have e2 := evs_sound (hρ hc) _ _ hc'
      simp [execOp, Instr.makeFunc, ← e1, ← e2]
      exact ⟨by apply Array.ext'; simp, by apply Array.ext'; simp⟩
    · exact h.elim
  · split at h
    · rename_i v l hh m hv hl hh' hm
      obtain ⟨r, hF, hr⟩ := sliceVC_sound hT hU h
      exact ⟨r, hF, fun hc => by
        simp only [execOp, hρ hc _ _ hv, evo_sound (hρ hc) hl, evo_sound (hρ hc) hh', evo_sound (hρ hc) hm]; exact ((hr hc).heap H).next⟩
    · exact h.elim
  · split at h
    · rename_i v hv
      obtain ⟨r, hF, hr⟩ := fieldAddrVC_sound hT h
      exact ⟨r, hF, fun hc => by simp only [execOp, hρ hc _ _ hv]; exact (hr.heap H).next⟩
    · exact h.elim
  · split at h
    · rename_i v hv
      obtain ⟨r, hF, hr⟩ := fieldVC_sound hT hU h
      exact ⟨r, hF, fun hc => by simp only [execOp, hρ hc _ _ hv]; exact ((hr hc).heap H).next⟩
    · exact h.elim
  · split at h
    · rename_i u v hu hv
      obtain ⟨r, hF, hr⟩ := indexAddrVC_sound hT hU h
      exact ⟨r, hF, fun hc => by simp only [execOp, hρ hc _ _ hu, hρ hc _ _ hv]; exact ((hr hc).heap H).next⟩
    · exact h.elim
  · split at h
    · rename_i u v hu hv
      obtain ⟨r, hF, hr⟩ := indexVC_sound hT hU h
      exact ⟨r, hF, fun hc => by simp only [execOp, hρ hc _ _ hu, hρ hc _ _ hv]; exact ((hr hc).heap H).next⟩
    · exact h.elim
  · split at h
    · rename_i ad hv
      obtain ⟨r, hF, hr⟩ := ldVC_sound hT hU h
      exact ⟨r, hF, fun hc => by
        simp only [execOp, hρ hc _ _ hv, Instr.loadAt, Instr.sureAddr]
        exact HeapV.next (s := do loadVar _ (← pure ad)) (fun w hw => by simp [hr hc w hw])⟩
    · exact h.elim
  · split at h
    · rename_i vs hv
      split at h
      · rename_i v hi
        exact ⟨_, h, fun hc w _ => by simp [execOp, hρ hc _ _ hv, Instr.extract, hi]⟩
      · exact h.elim
    · exact h.elim
  · split at h
    · rename_i u v hu hv
      obtain ⟨r, h1, h2⟩ := exTy_out h
      exact ⟨r, h2, fun hc => by simp only [execOp, hρ hc _ _ hu, hρ hc _ _ hv]; exact (hU hc _ h1).next⟩
    · exact h.elim
  · split at h
    · rename_i u hu
      obtain ⟨k, v, h1, h2⟩ := h
      exact ⟨_, h2, fun hc => by simp only [execOp, hρ hc _ _ hu]; exact (hU hc _ h1).next⟩
    · exact h.elim
  · split at h
    · rename_i vs hv
      obtain ⟨r, h1, h2⟩ := exTy_out h
      refine ⟨r, h2, fun hc => ?_⟩
      have e := evp_sound (hρ hc) _ _ hv
      have e' : ∀ ps : Array (Nat × Operand), ps.toList.map (fun p => (p.1, ev p.2)) = vs → (ps.map fun (i, x) => (i, ev x)) = ⟨vs⟩ := fun ps hh => by
        apply Array.ext'
        simp [← hh]
      simp only [execOp, e' _ e]
      exact ((hU hc _ h1).heap H).next
    · exact h.elim
  · rename_i cl
    obtain ⟨callee, args, ats⟩ := cl
    dsimp only at h
    split at h
    · rename_i b
      split at h
      · rename_i vs hv
        obtain ⟨r, hF, hr⟩ := callVC_sound hT hU h
        refine ⟨r, hF, fun hc w hw => ?_⟩
        have e := evs_sound (hρ hc) _ _ hv
        have e' : args.map ev = ⟨vs⟩ := by apply Array.ext'; simp [← e]
        simp only [execOp, resolve, e', Sem.run_bind, Sem.run_pure, Result.andThen_ok, invoke, hr hc _ w hw]
      · exact h.elim
    · exact h.elim
  · exact h.elim
end
end Go.V
