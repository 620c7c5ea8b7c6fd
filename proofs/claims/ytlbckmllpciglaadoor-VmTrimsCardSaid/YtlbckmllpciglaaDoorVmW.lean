/- The law of trims. -/
import Derived.Test.YtlbckmllpciglaaDoorVmV
import Derived.Test.YtlbckmllpciglaaDoorVmK
set_option linter.unusedVariables false
set_option linter.unusedSimpArgs false
set_option linter.all false
namespace Go.Proofs.YtlbckmllpciglaaDoor
open Go Sy

theorem s_work (c : Prg) (n : Nat) (hc : c.ins.length ≤ 1000) (hn : n ≤ 1000) : R 18 [c.d, .int n] = some [.int ((c.ins.length * n : Nat) : Int)] := by
  rw [r18, e18]
  have k0 : at_ c.d.asA 0 = .list (c.ins.map Ins.d) := rfl
  by_cases h0 : n = 0 ∨ c.ins.length = 0
  · have e : (decide ((n : Int) ≤ 0) || ((c.ins.length : Int) == 0)) = true := by
      rcases h0 with h | h <;> simp [h]
    have e2 : c.ins.length * n = 0 := by
      rcases h0 with h | h <;> simp [h]
    rw [e2]
    simp only [k0, asL_list', List.length_map, asI_int', e]
    simp
  · have h1 : n ≠ 0 := fun h => h0 (.inl h)
    have h2 : c.ins.length ≠ 0 := fun h => h0 (.inr h)
    have e : decide ((n : Int) ≤ 0) = false := by
      rw [decide_eq_false_iff_not]
      omega
    have e2 : ((c.ins.length : Int) == 0) = false := by simp; intro h; simp [h] at h2
    have hq : (1099511627776 : Int).tdiv (c.ins.length : Int) = ((1099511627776 / c.ins.length : Nat) : Int) := by
      rw [Int.ofNat_tdiv]
      rfl
    have hd : 1000000000 ≤ 1099511627776 / c.ins.length := by
      rw [Nat.le_div_iff_mul_le (by omega)]
      omega
    have hu : 1099511627776 / c.ins.length ≤ 1099511627776 := Nat.div_le_self ..
    have hw : IntKind.wrap .i64 ((1099511627776 : Int).tdiv (c.ins.length : Int)) = ((1099511627776 / c.ins.length : Nat) : Int) := by
      rw [hq, wrap64 (by omega)]
    have hm : c.ins.length * n ≤ 1000 * 1000 := Nat.mul_le_mul hc hn
    have hw2 : IntKind.wrap .i64 ((c.ins.length : Int) * (n : Int)) = ((c.ins.length * n : Nat) : Int) := by
      rw [← Int.natCast_mul, wrap64 (by omega)]
    have hlt : decide (((1099511627776 / c.ins.length : Nat) : Int) < n) = false := by
      rw [decide_eq_false_iff_not]
      omega
    simp only [k0, asL_list', List.length_map, asI_int', e, e2, hw, hw2]
    simp only [Bool.or_false, Bool.false_eq_true, if_false, Bool.not_false, if_true, outs_two, Option.bind_some]
    rw [hlt]
    rfl

theorem vmTrims_law (c : Prg) (cols : List Int) (l : List Delta) (hc : cols.length ≤ big) (hl : l.length ≤ big) (hr : ∀ x ∈ l, x.row.length ≤ big) : R 5 [c.d, intsD cols, deltasD l] = some [.bool true] := by
  rw [r5, e5]
  have h1 := s_light c cols l hr
  have h3 := s_fits27 cols l hl hc
  have h5 := s_Verify c cols
  cases g1 : light c cols l
  · rw [g1] at h1
    simp [s_small, h1]
  rw [g1] at h1
  cases g3 : fits cols l
  · rw [g3] at h3
    simp [s_small, h1, h3]
  rw [g3] at h3
  by_cases g5 : (verC c cols).2 ≠ 0
  · simp [s_small, h1, h3, h5, g5]
  simp only [ne_eq, Decidable.not_not] at g5
  have hv := verC_zero g5
  have hO := (okay_iff c cols).1 hv
  obtain ⟨hO1, v1⟩ := trim_okay hO
  obtain ⟨hO2, n2, v2⟩ := comp_okay hO1
  have ll : l.length ≤ 30 := by unfold light at g1; simp at g1; omega
  have lc : c.ins.length ≤ 100 := by unfold light at g1; simp at g1; omega
  have run : ∀ c' : Prg, Okay c' cols → R 10 [c'.d, intsD cols, deltasD l] = some [rowD (l.map (valRow c')), .int 0] := by
    intro c' h'
    have := s_Run c' cols l (by omega) hc
    have hv' := (okay_iff c' cols).2 h'
    unfold runC at this
    simpa [hv', g3] using this
  have r0 := run c hO
  have r1 := run _ hO1
  have r2 := run _ hO2
  have ht := s_trim c cols hO
  have hcp := s_compact c cols hO hO1
  have e1 : l.map (valRow (trimC c)) = l.map (valRow c) := List.map_congr_left fun t _ => v1 t
  have e2 : l.map (valRow (compC (trimC c))) = l.map (valRow c) := List.map_congr_left fun t _ => by rw [v2, v1]
  rw [e1] at r1
  rw [e2] at r2
  have s1 := s_same (l.map (valRow c)) (l.map (valRow c)) (by simp [big]; omega) (by simp [big]; omega)
  simp only [BEq.rfl] at s1
  have kl : (trimC c).ins.length ≤ c.ins.length := keep_len ..
  have w0 := s_work c l.length (by omega) (by omega)
  have w1 := s_work (trimC c) l.length (by omega) (by omega)
  have w2 := s_work (compC (trimC c)) l.length (by omega) (by omega)
  rw [n2] at w2
  have hle : ((trimC c).ins.length * l.length : Nat) ≤ c.ins.length * l.length := Nat.mul_le_mul_right _ kl
  have hle' : (((trimC c).ins.length * l.length : Nat) : Int) ≤ ((c.ins.length * l.length : Nat) : Int) := by omega
  generalize (trimC c).ins.length * l.length = a at *
  generalize c.ins.length * l.length = b at *
  simp [s_small, h1, h3, h5, g5, ht, hcp, r0, r1, r2, s1, w0, w1, w2, hle]
end Go.Proofs.YtlbckmllpciglaaDoor
