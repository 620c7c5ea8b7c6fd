/- The law of batches. -/
import Derived.Test.YtlbckmllpciglaaDoorVmJ
import Derived.Test.YtlbckmllpciglaaDoorVmS
set_option linter.unusedVariables false
set_option linter.unusedSimpArgs false
set_option linter.all false
namespace Go.Proofs.YtlbckmllpciglaaDoor
open Go Sy

theorem verC_zero {c : Prg} {cols : List Int} (h : (verC c cols).2 = 0) : verC c cols = (-1, 0) := by
  unfold verC at h ⊢
  split
  · rename_i h1; rw [if_pos h1] at h; simp at h
  rename_i h1
  rw [if_neg h1] at h
  split
  · rename_i h2; rw [if_pos h2] at h; simp at h
  rename_i h2
  rw [if_neg h2] at h
  split
  · rename_i p hp
    rw [hp] at h
    exact absurd h (verGo_inl hp)
  rename_i d hd
  rw [hd] at h
  simp only at h ⊢
  split
  · rename_i h3; rw [if_pos h3] at h; simp at h
  rename_i h3
  rw [if_neg h3] at h
  split
  · rename_i h4; rw [if_pos h4] at h; simp at h
  · rfl

def runC (c : Prg) (cols : List Int) (l : List Delta) : List Val × Int := if (verC c cols).2 ≠ 0 then ([], (verC c cols).2) else if fits cols l = false then ([], 16) else (l.map (valRow c), 0)
theorem s_Run (c : Prg) (cols : List Int) (l : List Delta) (hl : l.length ≤ 1048576) (hc : cols.length ≤ big) : R 10 [c.d, intsD cols, deltasD l] = some [rowD (runC c cols l).1, .int (runC c cols l).2] := by
  rw [r10, e10]
  unfold runC
  have hV := s_Verify c cols
  by_cases h0 : (verC c cols).2 = 0
  · have h1 := verC_zero h0
    have hF := s_fits cols l (by unfold big; omega) hc
    rw [h1] at hV
    cases hb : fits cols l
    · rw [hb] at hF
      simp [hV, h1, hF, rowD]
    · rw [hb] at hF
      have hR := s_run c cols l h1 hb hl
      simp [hV, h1, hF, hR]
  · simp [hV, h0, rowD]

def bump (t : Delta) : Delta := ⟨t.time, t.row, IntKind.wrap .i64 (t.n + 7)⟩
theorem insVal_bump (x : Ins) (t : Delta) (ρ : List Val) : insVal x (bump t) ρ = insVal x t ρ := rfl
theorem runRow_bump (t : Delta) : ∀ (l : List Ins) (ρ : List Val), runRow l (bump t) ρ = runRow l t ρ
  | [], _ => rfl
  | x :: l, ρ => runRow_bump t l _
theorem valRow_bump (c : Prg) (t : Delta) : valRow c (bump t) = valRow c t := by unfold valRow; rw [runRow_bump]
theorem fits_append (cols : List Int) (a b : List Delta) : fits cols (a ++ b) = (fits cols a && fits cols b) := by unfold fits; rw [List.all_append]
theorem fits_turned (cols : List Int) (a : List Delta) : fits cols (a.reverse.map bump) = fits cols a := by
  unfold fits
  rw [List.all_map, List.all_reverse]
  rfl

theorem vmBatches_law (c : Prg) (cols : List Int) (a b : List Delta) (hc : cols.length ≤ big) (ha : a.length ≤ big) (hb : b.length ≤ big) (hra : ∀ x ∈ a, x.row.length ≤ big) (hrb : ∀ x ∈ b, x.row.length ≤ big) :
    R 3 [c.d, intsD cols, deltasD a, deltasD b] = some [.bool true] := by
  rw [r3, e3]
  have h1 := s_light c cols a hra
  have h2 := s_light c cols b hrb
  have h3 := s_fits27 cols a ha hc
  have h4 := s_fits27 cols b hb hc
  have h5 := s_Verify c cols
  cases g1 : light c cols a
  · rw [g1] at h1
    simp [s_small, h1]
  rw [g1] at h1
  cases g2 : light c cols b
  · rw [g2] at h2
    simp [s_small, h1, h2]
  rw [g2] at h2
  cases g3 : fits cols a
  · rw [g3] at h3
    simp [s_small, h1, h2, h3]
  rw [g3] at h3
  cases g4 : fits cols b
  · rw [g4] at h4
    simp [s_small, h1, h2, h3, h4]
  rw [g4] at h4
  by_cases g5 : (verC c cols).2 ≠ 0
  · simp [s_small, h1, h2, h3, h4, h5, g5]
  simp only [ne_eq, Decidable.not_not] at g5
  have hv := verC_zero g5
  have la : a.length ≤ 30 := by unfold light at g1; simp at g1; omega
  have lb : b.length ≤ 30 := by unfold light at g2; simp at g2; omega
  have run : ∀ l : List Delta, l.length ≤ 60 → fits cols l = true → R 10 [c.d, intsD cols, deltasD l] = some [rowD (l.map (valRow c)), .int 0] := by
    intro l hl hf
    have := s_Run c cols l (by omega) hc
    unfold runC at this
    simpa [g5, hf] using this
  have h6 := run a (by omega) g3
  have h7 := run b (by omega) g4
  have h8 := run (a ++ b) (by simp; omega) (by rw [fits_append, g3, g4]; rfl)
  have h10 := run (a.reverse.map bump) (by simp; omega) (by rw [fits_turned, g3])
  have e10 : (a.reverse.map bump).map (valRow c) = a.reverse.map (valRow c) := by
    rw [List.map_map]
    congr 1
  rw [e10] at h10
  have s1 := s_same ((a ++ b).map (valRow c)) (a.map (valRow c) ++ b.map (valRow c)) (by simp [big]; omega) (by simp [big]; omega)
  have s2 := s_same (a.reverse.map (valRow c)) (a.reverse.map (valRow c)) (by simp [big]; omega) (by simp [big]; omega)
  rw [List.map_append] at s1 h8
  simp only [BEq.rfl] at s1 s2
  have f1 : (a.length : Int) ≤ 34359738368 := by omega
  have f2 : (a.length : Int) + (b.length : Int) ≤ 34359738368 := by omega
  unfold deltasD at h8 h10
  unfold rowD at h8 h10 s1 s2
  rw [List.map_append] at h8 s1
  simp [s_small, h1, h2, h3, h4, h5, g5, h6, h7, f1, f2, h8]
  generalize hL : loopL _ _ = L
  have hA := loop_to hL a.length (fun i => [.int ((a.length : Int) - 1 - i), .list ((a.reverse.map (Val.d ∘ valRow c)).take i), .list ((a.reverse.map (Delta.d ∘ bump)).take i)])
    (1769478, [.list (a.reverse.map (Val.d ∘ valRow c)), .list (a.reverse.map (Delta.d ∘ bump))]) (by rw [wrap64 (by omega)]; simp) (by
    intro i hi
    have hk : a.length - 1 - i < a.length := by omega
    have e : ((a.length : Int) - 1 - i) = ((a.length - 1 - i : Nat) : Int) := by omega
    have m1 := at_map (Val.d ∘ valRow c) a (a.length - 1 - i) hk
    have m2 := at_map Delta.d a (a.length - 1 - i) hk
    have t1 := take_map_snoc (Val.d ∘ valRow c) a.reverse i (by simpa using hi)
    have t2 := take_map_snoc (Delta.d ∘ bump) a.reverse i (by simpa using hi)
    rw [List.getElem_reverse] at t1 t2
    have w : IntKind.wrap .i64 (((a.length - 1 - i : Nat) : Int) - 1) = (a.length : Int) - 1 - ((i + 1 : Nat) : Int) := by rw [wrap64 (by omega)]; omega
    have hm : ((min i a.length : Nat) : Int) + 1 ≤ 34359738368 := by omega
    have hk' : ((a.length - 1 - i : Nat) : Int) < a.length := by omega
    rw [← t1, ← t2, ← w]
    simp only [e]
    simp [m1, m2, hm, hk', Delta.d, bump]) (by
    have e : ((a.length : Int) - 1 - a.length) = -1 := by omega
    simp [e, List.take_of_length_le]) (by simp)
  clear hL
  subst hA
  simp only [List.map_map, Function.comp_def, List.map_reverse] at h10 s1 s2 ⊢
  simp [h10, s1, s2]
end Go.Proofs.YtlbckmllpciglaaDoor
