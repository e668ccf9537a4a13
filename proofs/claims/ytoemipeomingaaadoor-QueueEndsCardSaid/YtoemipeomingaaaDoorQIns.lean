/- Contracts: how many that are alive lie within each path. -/
import Derived.Test.YtoemipeomingaaaDoorQSet
namespace Go.Proofs.YtoemipeomingaaaDoor
open Go Go.V

abbrev NM := List (Bs × Nat)
def kvN (m : NM) : KV := m.map fun p => (p.1, .int .i64 ((p.2 : Nat) : Int))
def getN : NM → Bs → Nat
  | [], _ => 0
  | p :: r, a => if a = p.1 then p.2 else getN r a
def putN : NM → Bs → Nat → NM
  | [], k, v => [(k, v)]
  | p :: r, k, v => if k = p.1 then (k, v) :: r else p :: putN r k v
theorem kvN_put : ∀ (m : NM) (k : Bs) (n : Nat), putKV (kvN m) k (.int .i64 (n : Int)) = kvN (putN m k n)
  | [], _, _ => rfl
  | p :: m, k, n => by
    have ih := kvN_put m k n
    unfold kvN at ih ⊢
    rw [List.map_cons, putKV, putN]
    split
    · rfl
    · rw [ih]; rfl
theorem kvN_get : ∀ (m : NM) (k : Bs), (getKV (kvN m) k).getD (.int .i64 0) = .int .i64 ((getN m k : Nat) : Int)
  | [], _ => rfl
  | p :: m, k => by
    have ih := kvN_get m k
    unfold kvN getKV at ih ⊢
    rw [List.map_cons, idxKV, getN]
    split
    · rfl
    · rw [← ih]
      cases idxKV (List.map (fun p => (p.1, Value.int .i64 ((p.2 : Nat) : Int))) m) k <;> rfl
theorem getN_put : ∀ (m : NM) (k : Bs) (n : Nat) (x : Bs), getN (putN m k n) x = if x = k then n else getN m x
  | [], k, n, x => by simp [putN, getN]
  | p :: m, k, n, x => by
    rw [putN]
    by_cases hk : k = p.1
    · rw [if_pos hk, getN, getN]
      by_cases hx : x = k
      · rw [if_pos hx, if_pos hx]
      · rw [if_neg hx, if_neg hx, if_neg (fun e => hx (e.trans hk.symm))]
    · rw [if_neg hk, getN, getN, getN_put]
      by_cases hx : x = p.1
      · rw [if_pos hx, if_pos hx, if_neg (fun e => hk (e.symm.trans hx))]
      · rw [if_neg hx, if_neg hx]
theorem zero3 (w : World) : (zeroValue 3).run Tryd.prog w = .ok (.int .i64 0) w := by
  obtain ⟨j, hj, _, _, hz⟩ := tab_ok.info 3 ⟨.int .i64, 1, 8, .int .i64 0⟩ rfl
  simp only [zeroValue, typeInfo, Sem.run_bind, run_program, Result.andThen_ok, hj, Sem.run_pure, hz]
theorem u49 : Tryd.prog.underlying 49 = some (.map 9 3) := descOf_und tab_ok rfl (by simp)
theorem u47 : Tryd.prog.underlying 47 = some (.map 9 35) := descOf_und tab_ok rfl (by simp)
theorem u9 : Tryd.prog.underlying 9 = some .string := descOf_und tab_ok rfl (by simp)

theorem count1_con (p : Bs) (hp : p.length ≤ 100000000) (g b B : Nat) (cm : NM) (H0 : Heap) (hg : Blk H0 g 49 #[.map (some b)]) (hb : Mp H0 b (kvN cm)) (hB : ∀ a, getN cm a ≤ B) (hB2 : B ≤ 1000000000) :
    CallsH Tryd.prog 42 ⟨[sv p, .pointer (some ⟨g, 0, none⟩)]⟩ H0 fun r H1 => r = .tuple ⟨[]⟩ ∧ GrownH H0 H1 (some b) ∧ ∃ cm', Mp H1 b (kvN cm') ∧ ∀ a, getN cm' a = getN cm a + (aboveB p).count a := by
  have hal : (aboveB p).length ≤ 111 := aboveB_len p 111 (parentB p) (parentB_le p)
  have hgb : g ≠ b := fun e => by
    subst e
    unfold Blk at hg
    unfold Mp at hb
    rw [hg] at hb
    cases hb
  refine queue_inside_1.ok ?_
  refine (above_con p hp H0).mono ?_
  rintro _ H1 ⟨a, c, rfl, hsl, e1⟩
  refine ⟨a, _, c, rfl, ?_⟩
  refine ⟨LI fun i H => ∃ (k : Nat) (cm' : NM), i = k ∧ k ≤ (aboveB p).length ∧ GrownH H1 H (some b) ∧ Mp H b (kvN cm') ∧ ∀ x, getN cm' x = getN cm x + ((aboveB p).take k).count x, LM fun i => (((aboveB p).length : Int) - i).toNat,
    ⟨⟨_, rfl⟩, 0, cm, rfl, by omega, GrownH.of_ext' (Ext.refl _), hb.ext e1, fun x => by simp⟩, ?_⟩
  rintro i H2 ⟨k, cm', rfl, hk, g2, m2, hc⟩
  refine ⟨fun h => ?_, fun h => ?_⟩
  · have hk' : k < (aboveB p).length := by have := of_decide_eq_true h; omega
    obtain ⟨ad, ha, hr⟩ := hsl.2 (by omega)
    have hgk : (aboveB p)[k]? = some (aboveB p)[k] := List.getElem?_eq_getElem hk'
    have hcell : cellAt H1 (Addr.add ad (k * 1)) = some (sv (aboveB p)[k]) := hr k _ hgk
    have hcell2 : cellAt H2 (Addr.add ad (k * 1)) = some (sv (aboveB p)[k]) := by
      obtain ⟨cs, e, f, hb1, hs1, hc1⟩ := cellAt_some hcell
      have hne : (Addr.add ad (k * 1)).block ≠ b := fun e1' => by
        rw [e1'] at hb1
        have := hb.ext e1
        unfold Mp at this
        rw [this] at hb1
        cases hb1
      have hlt : (Addr.add ad (k * 1)).block < H1.size := by
        rcases Nat.lt_or_ge (Addr.add ad (k * 1)).block H1.size with h1 | h1
        · exact h1
        · rw [Array.getElem?_eq_none h1] at hb1; cases hb1
      unfold cellAt
      rw [g2.block _ hlt (fun e' => hne (by injection e'))]
      unfold cellAt at hcell
      exact hcell
    have hg2 : Blk H2 g 49 #[.map (some b)] := g2.blk (hg.ext e1) (fun e => hgb (by injection e))
    have hcnt : ((aboveB p).take k).count (aboveB p)[k] ≤ 111 := Nat.le_trans List.count_le_length (by simp; omega)
    have hgn := hc (aboveB p)[k]
    have hBk := hB (aboveB p)[k]
    refine ⟨ad, ⟨ha, by omega, by omega⟩, (aboveB p)[k], by rw [toNat_cast]; exact hcell2, some b, by rw [hg2.cell]; rfl, ((getN cm' (aboveB p)[k] : Nat) : Int), ?_, ?_⟩
    · have := heap_lookup (P := Tryd.prog) u49 u9 m2 (aboveB p)[k] false zero3
      rw [kvN_get] at this
      exact this
    · have hw : IntKind.wrap .i64 (((getN cm' (aboveB p)[k] : Nat) : Int) + 1) = ((getN cm' (aboveB p)[k] + 1 : Nat) : Int) := by rw [wrap_i64 (by omega)]; omega
      rw [hw]
      refine (sem_mapUpdate (P := Tryd.prog) u49 u9 m2 (aboveB p)[k] _).mono ?_
      rintro _ H3 ⟨h3, m3⟩
      refine ⟨⟨_, rfl⟩, ⟨k + 1, putN cm' (aboveB p)[k] (getN cm' (aboveB p)[k] + 1), ?_, by omega, ?_, ?_, fun x => ?_⟩, ?_⟩
      · rw [wrap_i64 (by omega)]; omega
      · rw [h3]; exact g2.trans GrownH.setO
      · rw [← kvN_put]; exact m3
      · rw [getN_put, List.take_succ_eq_append_getElem hk', List.count_append]
        by_cases hx : x = (aboveB p)[k]
        · rw [if_pos hx, hx, hgn]
          simp
          omega
        · rw [if_neg hx, hc x]
          have : List.count x [(aboveB p)[k]] = 0 := by
            rw [List.count_eq_zero]
            simpa using hx
          rw [this]
          omega
      · show (((aboveB p).length : Int) - IntKind.wrap .i64 ((k : Int) + 1)).toNat < (((aboveB p).length : Int) - (k : Int)).toNat
        rw [wrap_i64 (by omega)]
        omega
  · have : k = (aboveB p).length := by have := of_decide_eq_false h; omega
    subst this
    refine ⟨rfl, (GrownH.of_ext' e1).trans g2, cm', m2, fun x => ?_⟩
    rw [hc x, List.take_length]
end Go.Proofs.YtoemipeomingaaaDoor
