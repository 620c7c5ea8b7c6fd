/- The law of tells. -/
import Derived.Test.YtlbckmllpciglaaDoorVmXg
set_option linter.unusedVariables false
set_option linter.unusedSimpArgs false
set_option linter.all false
namespace Go.Proofs.YtlbckmllpciglaaDoor
open Go Sy

def workZ (n : Nat) (rows : Int) : Int := if rows ≤ 0 ∨ n = 0 then 0 else if IntKind.wrap .i64 ((1099511627776 : Int).tdiv (n : Int)) < rows then 1099511627776 else IntKind.wrap .i64 ((n : Int) * rows)
theorem s_workZ (c : Prg) (rows : Int) : R 18 [c.d, .int rows] = some [.int (workZ c.ins.length rows)] := by
  rw [r18, e18]
  have k0 : at_ c.d.asA 0 = .list (c.ins.map Ins.d) := rfl
  unfold workZ
  generalize hn : c.ins.length = n
  by_cases h1 : rows ≤ 0
  · simp [k0, h1, hn]
  by_cases h2 : n = 0
  · simp [k0, hn, h2]
  have h3 : ((n : Int) == 0) = false := by rw [beq_eq_false_iff_ne]; omega
  have h4 : decide (rows ≤ 0) = false := by rw [decide_eq_false_iff_not]; exact h1
  simp only [k0, asL_list', List.length_map, hn, asI_int', h3, h4, Bool.or_false, Bool.false_eq_true, if_false, Bool.not_false, if_true, h1, h2, or_self]
  by_cases h5 : IntKind.wrap .i64 ((1099511627776 : Int).tdiv (n : Int)) < rows
  · simp [h5]
  · simp [h5]

theorem light_facts {c : Prg} {cols : List Int} {l : List Delta} (h : light c cols l = true) : c.ins.length ≤ 100 ∧ cols.length ≤ 20 ∧ l.length ≤ 30 ∧ ∀ t ∈ l, t.row.length ≤ 15 := by
  unfold light at h
  simp only [Bool.and_eq_true, decide_eq_true_eq] at h
  obtain ⟨⟨_, h2⟩, ⟨⟨h3, h4⟩, h5⟩, h6⟩ := h
  refine ⟨by omega, by omega, by omega, fun t ht => ?_⟩
  rw [List.take_of_length_le (by omega)] at h2
  have := List.all_eq_true.1 h2 t ht
  unfold short at this
  simp only [Bool.and_eq_true, decide_eq_true_eq] at this
  omega

theorem vmTells_law (c d : Prg) (cols : List Int) (l : List Delta) (rows : Int) (hr : ∀ x ∈ l, x.row.length ≤ big) : R 4 [c.d, d.d, intsD cols, deltasD l, .int rows] = some [.bool true] := by
  rw [r4, e4]
  have h1 := s_light c cols l hr
  have h2 := s_light d cols l hr
  cases g1 : light c cols l
  · rw [g1] at h1
    simp [s_small, h1]
  rw [g1] at h1
  cases g2 : light d cols l
  · rw [g2] at h2
    simp [s_small, h1, h2]
  rw [g2] at h2
  obtain ⟨l1, l2, l3, l4⟩ := light_facts g1
  have hl : l.length ≤ 1048576 := by omega
  have hc : cols.length ≤ big := by unfold big; omega
  have r1 := s_Run c cols l hl hc
  have r2 := s_refRun c cols l hl hc
  have q1 := s_select c cols l hl hc (fun t ht => by have := l4 t ht; omega)
  have q2 := s_refSelect c cols l hl hc
  have p1 := s_project [c, d] cols l hl hc
  have p2 := s_refProject [c, d] cols l hl hc
  have hpl : (D.list (List.map Prg.d [c, d])) = D.list [c.d, d.d] := rfl
  rw [hpl] at p1 p2
  have w := s_workZ c rows
  have sR : R 11 [rowD (runC c cols l).1, rowD (runC c cols l).1] = some [.bool true] := by
    have hle : (runC c cols l).1.length ≤ big := by
      unfold runC big
      (repeat' split) <;> simp <;> omega
    have := s_same (runC c cols l).1 (runC c cols l).1 hle hle
    simpa using this
  have sS : R 15 [deltasD (selC c cols l).1, deltasD (selC c cols l).1] = some [.bool true] := by
    refine s_same27 _ ?_ ?_
    · unfold selC big
      have := List.length_filter_le (fun t => (valRow c t).n == 1) l
      (repeat' split) <;> (try simp only [List.length_nil]) <;> omega
    · intro t ht
      unfold selC at ht
      split at ht
      · simp at ht
      split at ht
      · simp at ht
      split at ht
      · simp at ht
      · have := l4 t ((List.mem_filter.1 ht).1)
        unfold big
        omega
  have sP : R 15 [deltasD (projC [c, d] cols l).1, deltasD (projC [c, d] cols l).1] = some [.bool true] := by
    refine s_same27 _ ?_ ?_
    · unfold projC big
      (repeat' split) <;> simp
      omega
    · intro t ht
      unfold projC at ht
      split at ht
      · simp at ht
      split at ht
      · simp at ht
      split at ht
      · simp at ht
      · obtain ⟨t', _, rfl⟩ := List.mem_map.1 ht
        simp [big]
  have k0 : at_ c.d.asA 0 = .list (c.ins.map Ins.d) := rfl
  generalize runC c cols l = A at *
  generalize selC c cols l = B at *
  generalize projC [c, d] cols l = P at *
  simp [s_small, h1, h2, r1, r2, q1, q2, p1, p2, sR, sS, sP, w, k0]
  unfold workZ
  have e0 : (c.ins = []) ↔ c.ins.length = 0 := by simp
  simp only [e0]
  generalize c.ins.length = n
  by_cases hz : rows ≤ 0 ∨ n = 0
  · simp [hz]
  · have hn : ¬ n = 0 := fun h => hz (.inr h)
    have hr0 : ¬ rows ≤ 0 := fun h => hz (.inl h)
    by_cases hb : IntKind.wrap .i64 ((1099511627776 : Int).tdiv (n : Int)) < rows
    · simp [hr0, hn, hb]
    · simp [hr0, hn, hb, Int.mul_comm]
end Go.Proofs.YtlbckmllpciglaaDoor
