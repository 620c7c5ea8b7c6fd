/- The reference for programs: names, operands, what is formed. -/
import Derived.Test.YtlbckmllpciglaaDoorVmK
set_option linter.unusedVariables false
set_option linter.unusedSimpArgs false
set_option linter.all false
namespace Go.Proofs.YtlbckmllpciglaaDoor
open Go Sy

def refNames : List D := [.str [105, 110, 116], .str [116, 101, 120, 116], .str [98, 111, 111, 108], .str [99, 111, 108], .str [], .str [116, 105, 109, 101], .str [110, 111, 116], .str [110, 101, 103], .str [97, 100, 100], .str [115, 117, 98], .str [109, 117, 108], .str [100, 105, 118], .str [109, 111, 100], .str [101, 113], .str [110, 101], .str [108, 116], .str [108, 101], .str [97, 110, 100], .str [111, 114], .str [99, 111, 110, 99, 97, 116], .str [108, 101, 110], .str [105, 102], .str []]
theorem refNames_at : ∀ k, k < 23 → (((at_ refNames k).asS = []) ↔ (k = 4 ∨ k = 22)) := by decide +kernel
theorem s_refName (op : Int) : ∃ s : D, R 70 [.int op] = some [s] ∧ ((s.asS = []) ↔ isOp op = false) := by
  rw [r70, e70]
  by_cases h : 0 ≤ op ∧ op < 23
  · obtain ⟨n, rfl⟩ : ∃ n : Nat, op = n := ⟨op.toNat, by omega⟩
    have hn : n < 23 := by omega
    refine ⟨at_ refNames n, ?_, ?_⟩
    · have h1 : ¬ (23 : Int) ≤ n := by omega
      simp [h.1, h.2, h1]
      rfl
    · rw [refNames_at n hn]
      unfold isOp
      simp
      omega
  · refine ⟨.str [], ?_, ?_⟩
    · have h2 : op < 0 ∨ (23 : Int) ≤ op := by omega
      rcases h2 with h2 | h2 <;> simp [h2]
    · unfold isOp
      simp
      omega
theorem s_refArity (op : Int) : R 71 [.int op] = some [.int (arity op)] := by
  rw [r71, e71]
  unfold arity
  by_cases h0 : op = 0
  · subst h0; simp
  by_cases h1 : op = 1
  · subst h1; simp
  by_cases h2 : op = 2
  · subst h2; simp
  by_cases h3 : op = 3
  · subst h3; simp
  by_cases h5 : op = 5
  · subst h5; simp
  by_cases h6 : op = 6
  · subst h6; simp
  by_cases h7 : op = 7
  · subst h7; simp
  by_cases h20 : op = 20
  · subst h20; simp
  by_cases h21 : op = 21
  · subst h21; simp
  simp [h0, h1, h2, h3, h5, h6, h7, h20, h21]
theorem s_refOperands (x : Ins) : R 49 [x.d] = some [intsD (if isOp x.op then operands x else [])] := by
  rw [r49, e49]
  have hd0 : at_ x.d.asA 0 = .int x.op := rfl
  have hd2 : at_ x.d.asA 2 = .int x.a := rfl
  have hd3 : at_ x.d.asA 3 = .int x.b := rfl
  have hd4 : at_ x.d.asA 4 = .int x.c := rfl
  obtain ⟨s, h1, h2⟩ := s_refName x.op
  rw [hd0, hd2, hd3, hd4, h1, s_refArity]
  have hle := arity_le x.op
  unfold operands intsD
  cases h : isOp x.op
  · simp [h2.2 h]
  · have h3 : ((arity x.op : Nat) : Int) ≤ 3 := by omega
    have h4 : ¬ s.asS = [] := fun e => by rw [h2.1 e] at h; simp at h
    simp [h3, h4]
theorem fdiv2 (n : Int) : n.fdiv 2 = 0 ↔ (n = 0 ∨ n = 1) := by
  rw [Int.fdiv_eq_ediv_of_nonneg _ (by omega)]
  omega
def refF (x : Ins) : Bool := isOp x.op && !((decide (arity x.op < 3) && !(x.c == 0)) || (decide (arity x.op < 2) && !(x.b == 0)) || (decide (arity x.op < 1) && !(x.a == 0))) &&
  (if x.op = 0 ∨ x.op = 3 then x.s == [] else if x.op = 2 then (x.s == []) && ((x.n == 0) || (x.n == 1)) else if x.op = 1 then (x.n == 0) && decide ((x.s.length : Int) ≤ 200) else (x.n == 0) && (x.s == []))
theorem refF_formed (x : Ins) : refF x = formed x := by
  obtain ⟨op, to, a, b, c, n, s⟩ := x
  have hle := arity_le op
  have hf := fdiv2 n
  rw [Bool.eq_iff_iff]
  unfold refF formed bare
  simp only [Bool.and_eq_true, beq_iff_eq, decide_eq_true_eq, Bool.or_eq_true, Bool.not_eq_true', Bool.or_eq_false_iff, Bool.and_eq_false_iff, decide_eq_false_iff_not, Ins.mk.injEq, true_and, bne_iff_ne, Bool.not_eq_false', Bool.not_eq_eq_eq_not, Bool.not_true, beq_eq_false_iff_ne]
  have hs : ∀ (p : Prop) [Decidable p], ((if p then s else []) = s) ↔ (p ∨ s = []) := by
    intro p _
    by_cases hp : p
    · simp [hp]
    · simp only [hp, if_false, false_or]
      exact ⟨Eq.symm, Eq.symm⟩
  have hi : ∀ (p : Prop) [Decidable p] (v : Int), ((if p then v else 0) = v) ↔ (p ∨ v = 0) := by
    intro p _ v
    by_cases hp : p
    · simp [hp]
    · simp only [hp, if_false, false_or]
      exact ⟨Eq.symm, Eq.symm⟩
  rw [hs, hi, hi, hi, hi, hf]
  have hl : s = [] → (s.length : Int) ≤ 200 := by rintro rfl; simp
  generalize arity op = k at *
  by_cases h0 : op = 0
  · subst h0
    simp
    grind
  by_cases h3 : op = 3
  · subst h3
    simp
    grind
  by_cases h5 : op = 2
  · subst h5
    simp
    grind
  by_cases h6 : op = 1
  · subst h6
    simp
    grind
  simp [h0, h3, h5, h6]
  grind
theorem s_refFormed (x : Ins) : R 48 [x.d] = some [.bool (formed x)] := by
  rw [← refF_formed, r48, e48]
  have hd0 : at_ x.d.asA 0 = .int x.op := rfl
  have hd2 : at_ x.d.asA 2 = .int x.a := rfl
  have hd3 : at_ x.d.asA 3 = .int x.b := rfl
  have hd4 : at_ x.d.asA 4 = .int x.c := rfl
  have hd5 : at_ x.d.asA 5 = .int x.n := rfl
  have hd6 : at_ x.d.asA 6 = .str x.s := rfl
  obtain ⟨s, h1, h2⟩ := s_refName x.op
  rw [hd0, hd2, hd3, hd4, hd5, hd6, h1, s_refArity]
  unfold refF
  cases h : isOp x.op
  · simp [h2.2 h]
  have h4 : ¬ s.asS = [] := fun e => by rw [h2.1 e] at h; simp at h
  have e3 : decide (((arity x.op : Nat) : Int) < 3) = decide (arity x.op < 3) := by rw [decide_eq_decide]; omega
  have e2 : decide (((arity x.op : Nat) : Int) < 2) = decide (arity x.op < 2) := by rw [decide_eq_decide]; omega
  have e1 : decide (((arity x.op : Nat) : Int) < 1) = decide (arity x.op < 1) := by rw [decide_eq_decide]; omega
  simp only [Option.bind_some, at_zero, asI_int', asS_str', if_neg h4, e1, e2, e3]
  generalize (decide (arity x.op < 3) && !(x.c == 0) || decide (arity x.op < 2) && !(x.b == 0) || decide (arity x.op < 1) && !(x.a == 0)) = bad
  cases bad
  · by_cases h0 : x.op = 0
    · simp [h0, h4]
    by_cases h3 : x.op = 3
    · simp [h3, h4]
    by_cases h5 : x.op = 2
    · simp [h5, h4]
    by_cases h6 : x.op = 1
    · simp [h6, h4]
    simp [h0, h3, h5, h6, h4]
  · simp [h4]
end Go.Proofs.YtlbckmllpciglaaDoor
