/- What the functions on programs answer: lists, types of expressions. -/
import Derived.Test.YtlbckmllpciglaaDoorVmE
set_option linter.unusedVariables false
set_option linter.unusedSimpArgs false
set_option linter.all false
namespace Go.Proofs.YtlbckmllpciglaaDoor
open Go Sy

/-- Where a condition holds first. -/
theorem s_indexFunc (l : List D) (f : D) (p : D → Bool) (hl : l.length ≤ 4611686018427387904) (h : ∀ x ∈ l, callD R f [x] = some [.bool (p x)]) : ∃ i : Int, R 37 [.list l, f] = some [.int i] ∧ (decide (0 ≤ i) = l.any p) := by
  rw [r37, e37]
  generalize hL : loopL _ _ = L
  have key := loop_list hL l.length (fun i v => v = [.int i] ∧ (l.take i).any p = false) (fun o => (o = (327686, []) ∧ l.any p = false) ∨ (∃ i : Nat, o = (2, [.int i]) ∧ l.any p = true)) ⟨rfl, rfl⟩
  obtain ⟨o, rfl, h2⟩ := key (by
    rintro i v hi ⟨rfl, hv⟩
    have hx := h l[i] (List.getElem_mem hi)
    have ht := any_take_succ hi hv
    cases hp : p l[i]
    · left
      refine ⟨[.int (i + 1 : Nat)], ?_, rfl, by rw [ht, hp]⟩
      simp [hi, at_eq hi, hx, hp, wrap_nat (n := i) (by omega)]
    · right
      refine ⟨(2, [.int i]), ?_, by simp, .inr ⟨i, rfl, ?_⟩⟩
      · simp [hi, at_eq hi, hx, hp]
      · rw [List.any_eq_true]
        exact ⟨l[i], List.getElem_mem hi, hp⟩) (by
    rintro v ⟨rfl, hv⟩
    refine ⟨(327686, []), by simp, by simp, .inl ⟨rfl, by simpa using hv⟩⟩)
  rcases h2 with ⟨rfl, h3⟩ | ⟨i, rfl, h3⟩
  · exact ⟨-1, by simp, by rw [h3]; rfl⟩
  · exact ⟨i, by simp, by rw [h3]; simp⟩

theorem s_contains (l : List D) (f : D) (p : D → Bool) (hl : l.length ≤ 4611686018427387904) (h : ∀ x ∈ l, callD R f [x] = some [.bool (p x)]) : R 24 [.list l, f] = some [.bool (l.any p)] := by
  obtain ⟨i, h1, h2⟩ := s_indexFunc l f p hl h
  rw [r24, e24, h1]
  simp [← h2]

def kindOK (t : Int) : Bool := decide (0 ≤ t ∧ t < 3)
theorem s_kind (t : Int) : R 76 [.int t] = some [.bool (kindOK t)] := by
  rw [r76, e76]
  simp [kindOK]
/-- A type out of a list. -/
def pick (l : List Int) (i : Int) : Int × Bool := if 0 ≤ i ∧ i < l.length ∧ kindOK (gi l i.toNat) = true then (gi l i.toNat, true) else (0, false)
theorem s_pick (l : List Int) (i : Int) : R 99 [intsD l, .int i] = some [.int (pick l i).1, .bool (pick l i).2] := by
  by_cases h : 0 ≤ i ∧ i < l.length
  · have h1 : ¬ i < 0 := by omega
    have h2 : ¬ (l.length : Int) ≤ i := by omega
    have h3 : i.toNat < l.length := by omega
    rw [r99, e99]
    unfold pick
    cases hk : kindOK (gi l i.toNat) <;> simp [h, h1, h2, at_ints h3, s_kind, hk]
  · have h1 : i < 0 ∨ (l.length : Int) ≤ i := by omega
    have e : pick l i = (0, false) := if_neg (by rintro ⟨a, b, _⟩; exact h ⟨a, b⟩)
    rw [r99, e99, e]
    rcases h1 with h1 | h1 <;> simp [h1]

/-- Are there n types, all of them t? -/
def allOf (l : List Int) (n : Int) (t : Int) : Bool := ((l.length : Int) == n) && l.all (· == t)
theorem s_allOf (l : List Int) (n t : Int) (hl : l.length ≤ 4611686018427387904) : R 100 [.int t, .int n, .ptr (intsD l)] = some [.bool (allOf l n t)] := by
  rw [r100, e100]
  have h := s_contains (l.map D.int) (.fn 101 [] [.ptr (.int t)]) (fun d => !(d.asI == t)) (by simpa using hl) (by
    intro x hx
    obtain ⟨y, _, rfl⟩ := List.mem_map.1 hx
    simp only [callD_fn, List.nil_append, List.singleton_append]
    rw [r101, e101]
    simp)
  rw [any_ne_all] at h
  unfold allOf
  have h' : R 24 [intsD l, .fn 101 [] [.ptr (.int t)]] = _ := h
  cases hn : ((l.length : Int) == n) <;> simp [h', hn]

/-- The type of an operation over types. -/
def opTy (op n : Int) (l : List Int) : Int × Bool :=
  if n ≠ 0 then (0, false) else
  if op = 6 then (2, allOf l 1 2) else if op = 7 then (0, allOf l 1 0) else if op = 20 then (0, allOf l 1 1) else
  if op = 8 ∨ op = 9 ∨ op = 10 ∨ op = 11 ∨ op = 12 then (0, allOf l 2 0) else
  if op = 13 ∨ op = 14 ∨ op = 15 ∨ op = 16 then (2, allOf l 2 (gi l 0)) else
  if op = 17 ∨ op = 18 then (2, allOf l 2 2) else if op = 19 then (1, allOf l 2 1) else
  if op = 21 then (gi l (l.length - 1), ((l.length : Int) == 3) && (gi l 0 == 2) && (gi l 1 == gi l 2)) else (0, false)
theorem s_operation (op n : Int) (s : Bs) (args : D) (l : List Int) (hl : l.length ≤ 4611686018427387904) (h0 : 0 < l.length) : R 91 [.agg [.int op, .int n, .str s, args], intsD l] = some [.int (opTy op n l).1, .bool (opTy op n l).2] := by
  rw [r91, e91]
  have hh : ∀ n t, R 100 [.int t, .int n, .ptr (intsD l)] = some [.bool (allOf l n t)] := fun n t => s_allOf l n t hl
  have hg := at_ints h0
  by_cases hn : n = 0
  · subst hn
    by_cases h1 : op = 6
    · subst h1; simp [hh, opTy]
    by_cases h2 : op = 7
    · subst h2; simp [hh, opTy]
    by_cases h3 : op = 20
    · subst h3; simp [hh, opTy]
    by_cases h4 : op = 8
    · subst h4; simp [hh, opTy]
    by_cases h5 : op = 9
    · subst h5; simp [hh, opTy]
    by_cases h6 : op = 10
    · subst h6; simp [hh, opTy]
    by_cases h7 : op = 11
    · subst h7; simp [hh, opTy]
    by_cases h8 : op = 12
    · subst h8; simp [hh, opTy]
    by_cases h9 : op = 13
    · subst h9; simp [hh, opTy, hg, h0]
    by_cases h10 : op = 14
    · subst h10; simp [hh, opTy, hg, h0]
    by_cases h11 : op = 15
    · subst h11; simp [hh, opTy, hg, h0]
    by_cases h12 : op = 16
    · subst h12; simp [hh, opTy, hg, h0]
    by_cases h13 : op = 17
    · subst h13; simp [hh, opTy]
    by_cases h14 : op = 18
    · subst h14; simp [hh, opTy]
    by_cases h15 : op = 19
    · subst h15; simp [hh, opTy]
    by_cases h16 : op = 21
    · subst h16
      have hw : IntKind.wrap .i64 ((l.length : Int) - 1) = ((l.length - 1 : Nat) : Int) := by rw [wrap64 (by omega)]; omega
      have hb : (((l.length - 1 : Nat) : Int) < l.length) := by omega
      have hg' := at_ints (l := l) (i := l.length - 1) (by omega)
      by_cases h3 : l.length = 3
      · have hw3 : IntKind.wrap .i64 2 = 2 := wrap64 (by omega)
        have hg3 := at_ints (l := l) (i := 2) (by omega)
        simp [opTy, hw3, hg3, h3]
      · have h3' : ((l.length : Int) == 3) = false := by simp; omega
        simp [opTy, hw, hg', h3', hb]
    simp [opTy, h1, h2, h3, h4, h5, h6, h7, h8, h9, h10, h11, h12, h13, h14, h15, h16]
  · simp [opTy, hn]

/-- The type of an expression without parts. -/
def leafTy (cols ps : List Int) (op n : Int) (s : Bs) : Int × Bool :=
  if op = 0 then (0, true) else if op = 2 then (2, (n == 0) || (n == 1)) else if op = 3 then pick cols n else if op = 4 then pick ps n else
  if op = 1 then (1, (n == 0) && decide ((s.length : Int) ≤ 200)) else if op = 5 then (0, n == 0) else (0, false)
theorem s_leaf (fs : D) (cols ps : List Int) (op n : Int) (s : Bs) (args : D) : R 89 [.agg [fs, intsD cols, intsD ps], .agg [.int op, .int n, .str s, args]] = some [.int (leafTy cols ps op n s).1, .bool (leafTy cols ps op n s).2] := by
  rw [r89, e89]
  by_cases h1 : op = 0
  · subst h1; simp [leafTy]
  by_cases h2 : op = 2
  · subst h2; simp [leafTy]
  by_cases h3 : op = 3
  · subst h3; simp [leafTy, s_pick]
  by_cases h4 : op = 4
  · subst h4; simp [leafTy, s_pick]
  by_cases h5 : op = 1
  · subst h5; simp [leafTy]
  by_cases h6 : op = 5
  · subst h6; simp [leafTy]
  simp [leafTy, h1, h2, h3, h4, h5, h6]

/-! ### Expressions of one operation on registers -/
def parD (r : Int) : D := .agg [.int 4, .int r, .str [], .list []]
def insX (x : Ins) (args : List Int) : D := .agg [.int x.op, .int x.n, .str x.s, .list (args.map parD)]

theorem s_levels0 (r : Int) : R 77 [parD r] = some [.int 1] := by
  rw [r77, e77]
  generalize hL : loopL _ _ = L
  obtain rfl := loop_to hL 0 (fun _ => [.int 0, .int 0]) (458758, [.int 0]) rfl (by omega) (by simp [parD]) (by simp)
  simp [wrap64]
theorem s_levels1 (op n : Int) (s : Bs) (l : List Int) (hl : l.length ≤ 4611686018427387904) : ∃ k : Int, k ≤ 2 ∧ R 77 [.agg [.int op, .int n, .str s, .list (l.map parD)]] = some [.int k] := by
  rw [r77, e77]
  generalize hL : loopL _ _ = L
  have key := loop_list hL l.length (fun i v => ∃ m : Int, v = [.int i, .int m] ∧ 0 ≤ m ∧ m ≤ 1) (fun o => ∃ m : Int, o = (458758, [.int m]) ∧ 0 ≤ m ∧ m ≤ 1) ⟨0, rfl, by omega, by omega⟩
  obtain ⟨o, rfl, m, rfl, h1, h2⟩ := key (by
    rintro i v hi ⟨m, rfl, h1, h2⟩
    left
    refine ⟨[.int (i + 1 : Nat), .int (if 1 > m then 1 else m)], ?_, _, rfl, ?_⟩
    · have hm := at_map parD l i hi
      simp [hi, hm, s_levels0, wrap_nat (n := i) (by omega)]
    · split <;> omega) (by
    rintro v ⟨m, rfl, h1, h2⟩
    exact ⟨(458758, [.int m]), by simp, by simp, m, rfl, h1, h2⟩)
  exact ⟨m + 1, by omega, by simp [wrap64 (n := m + 1) (by omega)]⟩
end Go.Proofs.YtlbckmllpciglaaDoor
