/- The reference for programs: types of instructions. -/
import Derived.Test.YtlbckmllpciglaaDoorVmXa
set_option linter.unusedVariables false
set_option linter.unusedSimpArgs false
set_option linter.all false
namespace Go.Proofs.YtlbckmllpciglaaDoor
open Go Sy

theorem beqc (a b : Int) : (a == b) = (b == a) := by
  rw [Bool.eq_iff_iff, beq_iff_eq, beq_iff_eq]
  exact eq_comm
theorem gi_at' {l : List Int} {i : Nat} (h : i < l.length) : gi l i = l[i] := by
  unfold gi
  rw [List.getD_eq_getElem?_getD, List.getElem?_eq_getElem h]
  rfl
theorem s_refKind (t : Int) : R 95 [.int t] = some [.bool (kindOK t)] := by
  rw [r95, e95]
  simp [kindOK]
def refAt (l : List Int) (i : Int) : Int × Bool := if 0 ≤ i ∧ i < l.length then (gi l i.toNat, kindOK (gi l i.toNat)) else (0, false)
theorem s_refAt (l : List Int) (i : Int) : R 105 [intsD l, .int i] = some [.int (refAt l i).1, .bool (refAt l i).2] := by
  rw [r105, e105]
  by_cases h : 0 ≤ i ∧ i < l.length
  · have h1 : ¬ i < 0 := by omega
    have h2 : ¬ (l.length : Int) ≤ i := by omega
    have h3 : i.toNat < l.length := by omega
    simp [refAt, h, h1, h2, at_ints h3, s_refKind]
  · have h1 : i < 0 ∨ (l.length : Int) ≤ i := by omega
    have e : refAt l i = (0, false) := if_neg h
    rw [e]
    rcases h1 with h1 | h1 <;> simp [h1]
theorem norm_refAt (l : List Int) (i : Int) : norm (refAt l i) = pick l i := by
  unfold refAt pick norm
  by_cases h : 0 ≤ i ∧ i < l.length
  · cases hk : kindOK (gi l i.toNat) <;> simp [h, hk]
  · have : ¬ (0 ≤ i ∧ i < (l.length : Int) ∧ kindOK (gi l i.toNat) = true) := fun h' => h ⟨h'.1, h'.2.1⟩
    rw [if_neg h, if_neg this]
    simp
theorem norm_pick (l : List Int) (i : Int) : norm (pick l i) = pick l i := by
  unfold pick norm
  split <;> simp
theorem refAt_ok {l : List Int} {i t : Int} (h : pick l i = (t, true)) : refAt l i = (t, true) := by
  unfold pick at h
  unfold refAt
  split at h
  · rename_i h1
    simp only [Prod.mk.injEq, and_true] at h
    rw [if_pos ⟨h1.1, h1.2.1⟩, h1.2.2, h]
  · simp at h
theorem s_refNumber (op : Int) (h : isOp op = true ∨ op = 4) : R 104 [.int op] = some [.int (if op = 4 then 0 else arity op)] := by
  rw [r104, e104]
  by_cases h4 : op = 4
  · subst h4; simp
  have h := h.resolve_right h4
  simp only [isOp, decide_eq_true_eq] at h
  unfold arity
  by_cases h0 : op = 0
  · subst h0; simp
  by_cases h1 : op = 1
  · subst h1; simp
  by_cases h2 : op = 2
  · subst h2; simp
  by_cases h3 : op = 3
  · subst h3; simp
  by_cases h5 : op = 5
  · subst h5; simp
  by_cases h6 : op = 6
  · subst h6; simp
  by_cases h7 : op = 7
  · subst h7; simp
  by_cases h20 : op = 20
  · subst h20; simp
  by_cases h21 : op = 21
  · subst h21; simp
  have a1 : (5 : Int) < op := by omega
  have a2 : op < 21 := by omega
  have a3 : ¬ op = 22 := by omega
  simp [h0, h1, h2, h3, h4, h5, h6, h7, h20, h21, a1, a2, a3]

theorem s_refLevels0 (r : Int) : R 96 [parD r] = some [.int 1] := by
  rw [r96, e96]
  generalize hL : loopL _ _ = L
  obtain rfl := loop_to hL 0 (fun _ => [.int 0, .int 0]) (458758, [.int 0]) rfl (by omega) (by simp [parD]) (by simp)
  simp [wrap64]
theorem s_refLevels1 (op n : Int) (s : Bs) (l : List Int) (hl : l.length ≤ 4611686018427387904) : ∃ k : Int, k ≤ 2 ∧ R 96 [.agg [.int op, .int n, .str s, .list (l.map parD)]] = some [.int k] := by
  rw [r96, e96]
  generalize hL : loopL _ _ = L
  have key := loop_list hL l.length (fun i v => ∃ m : Int, v = [.int i, .int m] ∧ 0 ≤ m ∧ m ≤ 1) (fun o => ∃ m : Int, o = (458758, [.int m]) ∧ 0 ≤ m ∧ m ≤ 1) ⟨0, rfl, by omega, by omega⟩
  obtain ⟨o, rfl, m, rfl, h1, h2⟩ := key (by
    rintro i v hi ⟨m, rfl, h1, h2⟩
    left
    refine ⟨[.int (i + 1 : Nat), .int (if 1 > m then 1 else m)], ?_, _, rfl, ?_⟩
    · have hm := at_map parD l i hi
      simp [hi, hm, s_refLevels0, wrap_nat (n := i) (by omega)]
    · split <;> omega) (by
    rintro v ⟨m, rfl, h1, h2⟩
    exact ⟨(458758, [.int m]), by simp, by simp, m, rfl, h1, h2⟩)
  exact ⟨m + 1, by omega, by simp [wrap64 (n := m + 1) (by omega)]⟩

theorem s_refInner0 (cols ps : List Int) (r : Int) : R 97 [.list [], intsD cols, intsD ps, parD r] = some [.int (refAt ps r).1, .bool (refAt ps r).2] := by
  rw [r97, e97]
  generalize hL : loopL _ _ = L
  obtain rfl := loop_to hL 0 (fun _ => [.int 0, .list []]) (458758, [.list []]) rfl (by omega) (by simp [parD]) (by simp)
  have hn := s_refNumber 4 (.inr rfl)
  simp [parD, hn, s_refAt]

theorem s_refInner1 (cols ps : List Int) (x : Ins) (args : List Int) (hop : isOp x.op = true) (hl : args.length = arity x.op) (hr : ∀ r ∈ args, pick ps r = (gi ps r.toNat, true)) (hs : x.op = 1 ∨ x.s = []) :
    ∃ p : Int × Bool, R 97 [.list [], intsD cols, intsD ps, insX x args] = some [.int p.1, .bool p.2] ∧ norm p = norm (insTy cols ps x args) := by
  have hle := arity_le x.op
  rw [r97, e97]
  generalize hL : loopL _ _ = L
  obtain rfl := loop_to hL args.length (fun i => [.int i, intsD ((args.take i).map fun r => gi ps r.toNat)]) (458758, [intsD (args.map fun r => gi ps r.toNat)]) rfl (by
    intro i hi
    have hm := at_map parD args i hi
    have ho := s_refInner0 cols ps args[i]
    rw [refAt_ok (hr _ (List.getElem_mem hi))] at ho
    simp only [intsD] at ho
    have hf : ((min i args.length : Nat) : Int) + 1 ≤ 34359738368 := by omega
    have ht := take_map_snoc (D.int ∘ fun r => gi ps r.toNat) args i hi
    simp only [Function.comp_apply] at ht
    simp [insX, hi, hm, ho, wrap_nat (n := i) (by omega), hf, intsD, ht]) (by simp [insX]) (by simp)
  have hx0 : at_ (insX x args).asA 0 = .int x.op := rfl
  have hx1 : at_ (insX x args).asA 1 = .int x.n := rfl
  have hx2 : at_ (insX x args).asA 2 = .str x.s := rfl
  have hn := s_refNumber x.op (.inl hop)
  have hsn : (!decide (x.s = [])) = false ∨ (!(x.op == 1)) = false := by rcases hs with h | h <;> simp [h]
  have hop' := hop
  simp only [isOp, decide_eq_true_eq] at hop'
  have h4 : ¬ x.op = 4 := by omega
  have h22 : ¬ x.op = 22 := by omega
  rw [if_neg h4] at hn
  generalize hts : (args.map fun r => gi ps r.toNat) = ts
  have htl : ts.length = arity x.op := by rw [← hts, List.length_map, hl]
  have hargs : args = [] ↔ ts = [] := by rw [← hts, List.map_eq_nil_iff]
  unfold insTy
  rw [hts]
  simp only [hargs]
  simp only [hx0, hx1, hx2, Option.bind_some, if_true, at_zero, asI_int', asS_str', intsD_asL, List.length_map, hn, htl]
  clear hx0 hx1 hx2 hn hts hargs hr hl hL
  obtain ⟨op, to, a, b, c, n, s⟩ := x
  simp only at *
  have hs' : ¬ (s ≠ [] ∧ op ≠ 1) := by rcases hs with h | h <;> simp [h]
  have e1 : (!(s == []) && !(op == 1)) = false := by rcases hs with h | h <;> simp [h]
  have e22 : (op == 22) = false := by simpa using h22
  have e4 : (op == 4) = false := by simpa using h4
  have one : ts.length = 1 → ∃ t, ts = [t] := by
    intro h
    match ts, h with
    | [t], _ => exact ⟨t, rfl⟩
  have two : ts.length = 2 → ∃ t u, ts = [t, u] := by
    intro h
    match ts, h with
    | [t, u], _ => exact ⟨t, u, rfl⟩
  have three : ts.length = 3 → ∃ t u v, ts = [t, u, v] := by
    intro h
    match ts, h with
    | [t, u, v], _ => exact ⟨t, u, v, rfl⟩
  simp only [e1, e22, e4]
  clear e1 e22 e4 hsn hle hop hs'
  by_cases h0 : op = 0
  · subst h0
    have : ts = [] := List.eq_nil_of_length_eq_zero htl
    subst this
    exact ⟨(0, true), by simp, by simp [leafTy]⟩
  by_cases h2 : op = 2
  · subst h2
    have : ts = [] := List.eq_nil_of_length_eq_zero htl
    subst this
    exact ⟨(2, (n == 0) || (n == 1)), by simp, by simp [leafTy]⟩
  by_cases h3 : op = 3
  · subst h3
    have : ts = [] := List.eq_nil_of_length_eq_zero htl
    subst this
    exact ⟨refAt cols n, by simp [s_refAt], by simp [leafTy, norm_refAt, norm_pick]⟩
  by_cases hn : n = 0
  case neg =>
    refine ⟨(0, false), by simp [h0, h2, h3, hn], ?_⟩
    by_cases h1 : op = 1
    · subst h1
      have : ts = [] := List.eq_nil_of_length_eq_zero htl
      subst this
      simp [leafTy, hn, norm]
    by_cases h5 : op = 5
    · subst h5
      have : ts = [] := List.eq_nil_of_length_eq_zero htl
      subst this
      simp [leafTy, hn, norm]
    have : ts ≠ [] := by
      rintro rfl
      have : arity op ≠ 0 := by
        unfold arity
        simp only [h0, h1, h2, h3, h5, or_self, if_false]
        split
        · simp
        · split <;> simp
      exact this htl.symm
    simp [this, opTy, hn]
  subst hn
  by_cases h1 : op = 1
  · subst h1
    have : ts = [] := List.eq_nil_of_length_eq_zero htl
    subst this
    exact ⟨(1, decide ((s.length : Int) ≤ 200)), by simp, by simp [leafTy]⟩
  by_cases h5 : op = 5
  · subst h5
    have : ts = [] := List.eq_nil_of_length_eq_zero htl
    subst this
    exact ⟨(0, true), by simp, by simp [leafTy]⟩
  by_cases h6 : op = 6
  · subst h6
    obtain ⟨t, rfl⟩ := one htl
    exact ⟨(2, t == 2), by simp [gi, arity], by simp [opTy, allOf]⟩
  by_cases h7 : op = 7
  · subst h7
    obtain ⟨t, rfl⟩ := one htl
    exact ⟨(0, t == 0), by simp [gi, arity], by simp [opTy, allOf]⟩
  by_cases h20 : op = 20
  · subst h20
    obtain ⟨t, rfl⟩ := one htl
    exact ⟨(0, t == 1), by simp [gi, arity], by simp [opTy, allOf]⟩
  by_cases h21 : op = 21
  · subst h21
    obtain ⟨t, u, v, rfl⟩ := three htl
    refine ⟨(u, (t == 2) && (u == v)), by simp [gi, arity], ?_⟩
    by_cases huv : u = v
    · subst huv
      simp [opTy, gi]
    · simp [opTy, gi, huv, norm]
  have ha : arity op = 2 := by
    unfold arity
    simp [h0, h1, h2, h3, h5, h6, h7, h20, h21]
  rw [ha] at htl
  obtain ⟨t, u, rfl⟩ := two htl
  clear two three one htl
  simp only [ha]
  by_cases o8 : op = 8
  · subst o8
    exact ⟨(0, (t == 0) && (u == 0)), by simp [gi], by simp [opTy, allOf]⟩
  by_cases o9 : op = 9
  · subst o9
    exact ⟨(0, (t == 0) && (u == 0)), by simp [gi], by simp [opTy, allOf]⟩
  by_cases o10 : op = 10
  · subst o10
    exact ⟨(0, (t == 0) && (u == 0)), by simp [gi], by simp [opTy, allOf]⟩
  by_cases o11 : op = 11
  · subst o11
    exact ⟨(0, (t == 0) && (u == 0)), by simp [gi], by simp [opTy, allOf]⟩
  by_cases o12 : op = 12
  · subst o12
    exact ⟨(0, (t == 0) && (u == 0)), by simp [gi], by simp [opTy, allOf]⟩
  by_cases o13 : op = 13
  · subst o13
    exact ⟨(2, t == u), by simp [gi], by have e := beqc u t; simp [opTy, allOf, gi, e]⟩
  by_cases o14 : op = 14
  · subst o14
    exact ⟨(2, t == u), by simp [gi], by have e := beqc u t; simp [opTy, allOf, gi, e]⟩
  by_cases o15 : op = 15
  · subst o15
    exact ⟨(2, t == u), by simp [gi], by have e := beqc u t; simp [opTy, allOf, gi, e]⟩
  by_cases o16 : op = 16
  · subst o16
    exact ⟨(2, t == u), by simp [gi], by have e := beqc u t; simp [opTy, allOf, gi, e]⟩
  by_cases o17 : op = 17
  · subst o17
    exact ⟨(2, (t == 2) && (u == 2)), by simp [gi], by simp [opTy, allOf]⟩
  by_cases o18 : op = 18
  · subst o18
    exact ⟨(2, (t == 2) && (u == 2)), by simp [gi], by simp [opTy, allOf]⟩
  by_cases o19 : op = 19
  · subst o19
    exact ⟨(1, (t == 1) && (u == 1)), by simp [gi], by simp [opTy, allOf]⟩
  omega

theorem s_refType (cols ps : List Int) (x : Ins) (args : List Int) (hop : isOp x.op = true) (hl : args.length = arity x.op) (hr : ∀ r ∈ args, pick ps r = (gi ps r.toNat, true)) (hs : x.op = 1 ∨ x.s = []) :
    R 72 [.list [], intsD cols, intsD ps, insX x args] = some [.int (norm (insTy cols ps x args)).1, .bool (norm (insTy cols ps x args)).2] := by
  have hle := arity_le x.op
  have h0 : R 86 [.list []] = some [.bool true] := by
    rw [r86, e86]
    generalize hL : loopL _ _ = L
    obtain rfl := loop_to hL 0 (fun _ => [.int 0]) (327686, []) rfl (by omega) (by simp) (by simp)
    simp
  have h1 : R 87 [.list [], intsD cols, intsD ps, insX x args] = some [.int (norm (insTy cols ps x args)).1, .bool (norm (insTy cols ps x args)).2] := by
    rw [r87, e87]
    obtain ⟨k, hk, hlev⟩ := s_refLevels1 x.op x.n x.s args (by omega)
    have hlev' : R 96 [insX x args] = _ := hlev
    have hk' : ¬ 12 < k := by omega
    obtain ⟨p, hp, hn⟩ := s_refInner1 cols ps x args hop hl hr hs
    rw [← hn]
    unfold norm
    cases hb : p.2 <;> simp [hlev', hk', hp, hb]
  rw [r72, e72]
  simp [h0, h1]
theorem s_refTyped (x : Ins) (cols ps : List Int) (hop : isOp x.op = true) (hr : ∀ r ∈ operands x, pick ps r = (gi ps r.toNat, true)) (hs : x.op = 1 ∨ x.s = []) :
    R 50 [x.d, intsD cols, intsD ps] = some [.int (norm (insTy cols ps x (operands x))).1, .bool (norm (insTy cols ps x (operands x))).2] := by
  rw [r50, e50]
  have hx0 : at_ x.d.asA 0 = .int x.op := rfl
  have hx5 : at_ x.d.asA 5 = .int x.n := rfl
  have hx6 : at_ x.d.asA 6 = .str x.s := rfl
  have hO := s_refOperands x
  rw [hop] at hO
  simp only [if_true] at hO
  have hle := operands_le x
  simp only [hx0, hx5, hx6, hO, Option.bind_some]
  generalize hL : loopL _ _ = L
  have hB := loop_to hL (operands x).length (fun i => [.int i, .list (((operands x).map parD).take i)]) (589830, [.list ((operands x).map parD)]) rfl (by
    intro i hi
    have e := at_map D.int (operands x) i hi
    have hm : ((min i (operands x).length : Nat) : Int) + 1 ≤ 34359738368 := by omega
    have ht := take_map_snoc parD (operands x) i hi
    simp only [parD] at ht
    have e2 := gi_at' hi
    simp [e, e2, hi, hm, wrap_nat (n := i) (by omega), ht, parD]) (by simp [List.take_of_length_le]) (by simp)
  clear hL
  subst hB
  have hlo : (operands x).length = arity x.op := by
    have := arity_le x.op
    unfold operands
    simp
    omega
  have hT := s_refType cols ps x (operands x) hop hlo hr hs
  unfold insX at hT
  simp [hT]
end Go.Proofs.YtlbckmllpciglaaDoor
