/- What the functions on programs answer: instructions. -/
import Derived.Test.YtlbckmllpciglaaDoorSyC
import Derived.Test.YtlbckmllpciglaaDoorF7
set_option linter.unusedVariables false
set_option linter.unusedSimpArgs false
set_option linter.all false
namespace Go.Proofs.YtlbckmllpciglaaDoor
open Go Sy

def arity (op : Int) : Nat := if op = 0 ∨ op = 1 ∨ op = 2 ∨ op = 3 ∨ op = 5 then 0 else if op = 6 ∨ op = 7 ∨ op = 20 then 1 else if op = 21 then 3 else 2
def isOp (op : Int) : Bool := decide (0 ≤ op ∧ op < 23 ∧ op ≠ 4 ∧ op ≠ 22)
def bare (x : Ins) : Ins := ⟨x.op, x.to, if 1 ≤ arity x.op then x.a else 0, if 2 ≤ arity x.op then x.b else 0, if 3 ≤ arity x.op then x.c else 0,
  if x.op = 0 ∨ x.op = 2 ∨ x.op = 3 then x.n else 0, if x.op = 1 then x.s else []⟩
def formed (x : Ins) : Bool := isOp x.op && bare x == x && decide ((x.s.length : Int) ≤ 200) && (!(x.op == 2) || x.n.fdiv 2 == 0)
def operands (x : Ins) : List Int := [x.a, x.b, x.c].take (arity x.op)

theorem s_arity (op : Int) : R 56 [.int op] = some [.int (arity op)] := by
  rw [r56, e56]
  unfold arity
  by_cases h0 : op = 0
  · subst h0; simp
  by_cases h1 : op = 1
  · subst h1; simp
  by_cases h2 : op = 2
  · subst h2; simp
  by_cases h3 : op = 3
  · subst h3; simp
  by_cases h5 : op = 5
  · subst h5; simp
  by_cases h6 : op = 6
  · subst h6; simp
  by_cases h7 : op = 7
  · subst h7; simp
  by_cases h20 : op = 20
  · subst h20; simp
  by_cases h21 : op = 21
  · subst h21; simp
  simp [h0, h1, h2, h3, h5, h6, h7, h20, h21]

theorem names_at : ∀ k, k < 23 → (((at_ (C.G 0).asA k).asS = []) ↔ (k = 4 ∨ k = 22)) := by decide +kernel
theorem s_isOp (op : Int) : R 54 [.int op] = some [.bool (isOp op)] := by
  rw [r54, e54]
  unfold isOp
  by_cases h : 0 ≤ op ∧ op < 23
  · obtain ⟨n, rfl⟩ : ∃ n : Nat, op = n := ⟨op.toNat, by omega⟩
    have hn : n < 23 := by omega
    have := names_at n hn
    simp [h.1, h.2]
    rw [Bool.eq_iff_iff]
    simp [this]
    omega
  · have h2 : decide (0 ≤ op ∧ op < 23 ∧ op ≠ 4 ∧ op ≠ 22) = false := by simp; omega
    rw [h2]
    by_cases h0 : 0 ≤ op
    · have h1 : ¬ op < 23 := by omega
      simp [h0, h1]
    · simp [h0]

theorem arity_le (op : Int) : arity op ≤ 3 := by unfold arity; split <;> (try split) <;> (try split) <;> omega
theorem s_bare (x : Ins) : R 55 [x.d] = some [(bare x).d] := by
  rw [r55, e55]
  obtain ⟨op, to, a, b, c, n, s⟩ := x
  simp only [Ins.d, asA_agg', at_zero, at_one, at_two, at_three, at_four, at_five, at_six, s_arity, Option.bind_some]
  have hle := arity_le op
  unfold bare
  generalize arity op = k at *
  have hk : k = 0 ∨ k = 1 ∨ k = 2 ∨ k = 3 := by omega
  have e1 : ∀ t, t = (3 : Int) ∨ t = 0 ∨ t = 1 ∨ t = 2 → True := fun _ _ => trivial
  by_cases h0 : op = 0
  · subst h0; rcases hk with rfl | rfl | rfl | rfl <;> simp
  by_cases h1 : op = 1
  · subst h1; rcases hk with rfl | rfl | rfl | rfl <;> simp
  by_cases h2 : op = 2
  · subst h2; rcases hk with rfl | rfl | rfl | rfl <;> simp
  by_cases h3 : op = 3
  · subst h3; rcases hk with rfl | rfl | rfl | rfl <;> simp
  rcases hk with rfl | rfl | rfl | rfl <;> simp [h0, h1, h2, h3]

theorem s_formed (x : Ins) : R 38 [x.d] = some [.bool (formed x)] := by
  rw [r38, e38]
  have hd0 : at_ x.d.asA 0 = .int x.op := rfl
  have hd5 : at_ x.d.asA 5 = .int x.n := rfl
  have hd6 : at_ x.d.asA 6 = .str x.s := rfl
  rw [hd0, hd5, hd6, s_isOp, s_bare]
  unfold formed
  cases h : isOp x.op
  · simp
  · simp [IntKind.bits]

theorem s_operands (x : Ins) : R 39 [x.d] = some [intsD (if isOp x.op then operands x else [])] := by
  rw [r39, e39]
  have hd0 : at_ x.d.asA 0 = .int x.op := rfl
  have hd2 : at_ x.d.asA 2 = .int x.a := rfl
  have hd3 : at_ x.d.asA 3 = .int x.b := rfl
  have hd4 : at_ x.d.asA 4 = .int x.c := rfl
  rw [hd0, hd2, hd3, hd4, s_isOp, s_arity]
  have hle := arity_le x.op
  unfold operands intsD
  cases h : isOp x.op
  · simp
  · have h3 : ((arity x.op : Nat) : Int) ≤ 3 := by omega
    simp [h3]
end Go.Proofs.YtlbckmllpciglaaDoor
