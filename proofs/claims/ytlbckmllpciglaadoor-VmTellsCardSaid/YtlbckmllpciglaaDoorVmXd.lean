/- The reference for programs: values. -/
import Derived.Test.YtlbckmllpciglaaDoorVmXc
set_option linter.unusedVariables false
set_option linter.unusedSimpArgs false
set_option linter.all false
namespace Go.Proofs.YtlbckmllpciglaaDoor
open Go Sy

theorem cmp_strLt : ∀ a b : Bs, decide (Lib.compareBytes a b < 0) = strLt a b ∧ decide (Lib.compareBytes a b ≤ 0) = !strLt b a
  | [], [] => ⟨rfl, rfl⟩
  | [], _ :: _ => ⟨rfl, rfl⟩
  | _ :: _, [] => ⟨rfl, rfl⟩
  | a :: x, b :: y => by
    obtain ⟨i1, i2⟩ := cmp_strLt x y
    unfold Lib.compareBytes
    simp only [strLt]
    by_cases h1 : a < b
    · have h2 : ¬ b < a := UInt8.not_lt.2 (UInt8.le_of_lt h1)
      have h3 : (b == a) = false := by
        rw [beq_eq_false_iff_ne]
        rintro rfl
        exact UInt8.lt_irrefl _ h1
      simp [h1, h2, h3]
    · by_cases h2 : b < a
      · have h3 : (a == b) = false := by
          rw [beq_eq_false_iff_ne]
          rintro rfl
          exact UInt8.lt_irrefl _ h2
        simp [h1, h2, h3]
      · have h3 : a = b := UInt8.le_antisymm (UInt8.not_lt.1 h2) (UInt8.not_lt.1 h1)
        subst h3
        simp only [h1, if_false, decide_false, Bool.false_or, beq_self_eq_true, Bool.true_and]
        exact ⟨i1, i2⟩

theorem right_cases {v : Val} (h : rightV v = true) : (v.kind = 0 ∧ v.s = []) ∨ (v.kind = 1 ∧ v.n = 0 ∧ v.s.length ≤ 200) ∨ (v.kind = 2 ∧ (v.n = 0 ∨ v.n = 1) ∧ v.s = []) := by
  unfold rightV at h
  split at h
  · rename_i h0
    exact .inl ⟨h0, by simpa using h⟩
  split at h
  · rename_i h1
    simp at h
    exact .inr (.inl ⟨h1, h.1, by omega⟩)
  · simp at h
    exact .inr (.inr ⟨h.1.1, h.1.2, h.2⟩)
def lessV (a b : Val) : Bool := if a.kind = 1 then strLt a.s b.s else decide (a.n < b.n)
theorem less_cmp {a b : Val} (ha : rightV a = true) (hb : rightV b = true) (hk : a.kind = b.kind) : decide (cmpVal a b < 0) = lessV a b ∧ decide (cmpVal a b ≤ 0) = !lessV b a := by
  have e : cmpI a.kind b.kind = 0 := by unfold cmpI; rw [hk]; simp
  unfold cmpVal lessV
  simp only [firstNZ, e, if_true]
  rcases right_cases ha with ⟨k, s⟩ | ⟨k, n, _⟩ | ⟨k, _, s⟩ <;> rcases right_cases hb with ⟨k', s'⟩ | ⟨k', n', _⟩ | ⟨k', _, s'⟩ <;> try (exfalso; omega)
  · rw [s, s', k, k']
    have e2 : Lib.compareBytes [] [] = 0 := rfl
    unfold cmpI
    by_cases h1 : a.n < b.n
    · have : ¬ b.n < a.n := by omega
      simp [h1, this]
    · by_cases h2 : b.n < a.n <;> simp [h1, h2, e2]
  · rw [n, n', k, k']
    obtain ⟨c1, c2⟩ := cmp_strLt a.s b.s
    have e3 : cmpI 0 0 = 0 := rfl
    simp only [e3, if_true]
    by_cases hz : Lib.compareBytes a.s b.s = 0
    · rw [hz] at c1 c2
      simp [hz, ← c1, ← c2]
    · simp only [hz, if_false]
      exact ⟨c1, c2⟩
  · rw [s, s', k, k']
    have e2 : Lib.compareBytes [] [] = 0 := rfl
    unfold cmpI
    by_cases h1 : a.n < b.n
    · have : ¬ b.n < a.n := by omega
      simp [h1, this]
    · by_cases h2 : b.n < a.n <;> simp [h1, h2, e2]

/-- A value vs an expression. -/
def cE (v : Val) : D := if v.kind = 1 then .agg [.int 1, .int 0, .str v.s, .list []] else if v.kind = 2 then .agg [.int 2, .int v.n, .str [], .list []] else .agg [.int 0, .int v.n, .str [], .list []]
theorem s_constant (v : Val) : R 73 [v.d] = some [cE v] := by
  rw [r73, e73]
  have hd0 : at_ v.d.asA 0 = .int v.kind := rfl
  have hd1 : at_ v.d.asA 1 = .int v.n := rfl
  have hd2 : at_ v.d.asA 2 = .str v.s := rfl
  unfold cE
  by_cases h1 : v.kind = 1
  · simp [hd0, hd1, hd2, h1]
  by_cases h2 : v.kind = 2
  · simp [hd0, hd1, hd2, h2]
  simp [hd0, hd1, hd2, h1, h2]
theorem s_truth (b : Bool) : R 106 [.bool b] = some [(vBool b).d] := by
  rw [r106, e106]
  cases b <;> simp [vBool, Val.d]
theorem s_less (a b : Val) : R 107 [a.d, b.d] = some [.bool (lessV a b)] := by
  rw [r107, e107]
  have a0 : at_ a.d.asA 0 = .int a.kind := rfl
  have a1 : at_ a.d.asA 1 = .int a.n := rfl
  have a2 : at_ a.d.asA 2 = .str a.s := rfl
  have b1 : at_ b.d.asA 1 = .int b.n := rfl
  have b2 : at_ b.d.asA 2 = .str b.s := rfl
  unfold lessV
  by_cases h : a.kind = 1 <;> simp [a0, a1, a2, b1, b2, h]

theorem s_runC (v : Val) (hv : rightV v = true) (t row : D) : ∃ k : Int, R 88 [.list [], cE v, t, row, .list []] = some [.agg [v.d, .int k]] := by
  rw [r88, e88]
  have hA : at_ (cE v).asA 3 = .list [] := by unfold cE; split <;> (try split) <;> rfl
  refine ⟨1, ?_⟩
  obtain ⟨k, n, s⟩ := v
  rcases right_cases hv with ⟨h1, h2⟩ | ⟨h1, h2, _⟩ | ⟨h1, h2, h3⟩
  · simp only at h1 h2
    subst h1 h2
    have hp : R 98 [cE ⟨0, n, []⟩, .list []] = some [(⟨0, n, []⟩ : Val).d] := by
      rw [r98, e98]
      simp [cE, Val.d]
    have e0 : at_ (cE ⟨0, n, []⟩).asA 0 = .int 0 := rfl
    simp [e0, hA]
    rw [loopL_eq]
    simp [hp]
  · simp only at h1 h2
    subst h1 h2
    have hp : R 98 [cE ⟨1, 0, s⟩, .list []] = some [(⟨1, 0, s⟩ : Val).d] := by
      rw [r98, e98]
      simp [cE, Val.d]
    have e0 : at_ (cE ⟨1, 0, s⟩).asA 0 = .int 1 := rfl
    simp [e0, hA]
    rw [loopL_eq]
    simp [hp]
  · simp only at h1 h2 h3
    subst h1 h3
    have hp : R 98 [cE ⟨2, n, []⟩, .list []] = some [(⟨2, n, []⟩ : Val).d] := by
      rw [r98, e98]
      rcases h2 with rfl | rfl <;> simp [cE, s_truth, vBool]
    have e0 : at_ (cE ⟨2, n, []⟩).asA 0 = .int 2 := rfl
    simp [e0, hA]
    rw [loopL_eq]
    simp [hp]

def srcV (x : Ins) (time : Int) (row : List Val) : Val := if x.op = 0 then vInt x.n else if x.op = 2 then vBool (x.n == 1) else if x.op = 1 then vText x.s else if x.op = 3 then gv row x.n.toNat else vInt time
/-- What an instruction yields out of values. -/
def evA (x : Ins) (time : Int) (row vs : List Val) : Val :=
  if arity x.op = 0 then srcV x time row else if arity x.op = 1 then oneVal x (gv vs 0) else if arity x.op = 2 then twoVal x (gv vs 0) (gv vs 1) else triVal (gv vs 0) (gv vs 1) (gv vs 2)
theorem evA_insVal (x : Ins) (t : Delta) (ρ : List Val) : evA x t.time t.row ((operands x).map fun r => gv ρ r.toNat) = insVal x t ρ := by
  have hle := arity_le x.op
  unfold evA insVal operands
  have e : srcV x t.time t.row = srcVal x t := rfl
  rw [e]
  generalize arity x.op = k at *
  have hk : k = 0 ∨ k = 1 ∨ k = 2 ∨ k = 3 := by omega
  rcases hk with rfl | rfl | rfl | rfl <;> simp [gv]

theorem s_applyX (x : Ins) (time : Int) (row vs : List Val) (args : D) (hop : isOp x.op = true) (hl : vs.length = arity x.op) (hr : ∀ v ∈ vs, rightV v = true) (hk : x.op = 15 ∨ x.op = 16 → (gv vs 0).kind = (gv vs 1).kind) (h3 : x.op ≠ 3 ∧ x.op ≠ 5 ∧ x.op ≠ 21) :
    R 98 [.agg [.int x.op, .int x.n, .str x.s, args], rowD vs] = some [(evA x time row vs).d] := by
  rw [r98, e98]
  have hop' := hop
  simp only [isOp, decide_eq_true_eq] at hop'
  have one : vs.length = 1 → ∃ t, vs = [t] := by
    intro h
    match vs, h with
    | [t], _ => exact ⟨t, rfl⟩
  have two : vs.length = 2 → ∃ t u, vs = [t, u] := by
    intro h
    match vs, h with
    | [t, u], _ => exact ⟨t, u, rfl⟩
  have e1 : ∀ v : Val, at_ v.d.asA 1 = .int v.n := fun _ => rfl
  have e2 : ∀ v : Val, at_ v.d.asA 2 = .str v.s := fun _ => rfl
  have eI : ∀ n : Int, D.agg [.int 0, .int n, .str []] = (vInt n).d := fun _ => rfl
  have eT : ∀ s : Bs, D.agg [.int 1, .int 0, .str s] = (vText s).d := fun _ => rfl
  obtain ⟨op, to, a, b, c, n, s⟩ := x
  simp only at *
  by_cases h0 : op = 0
  · subst h0
    simp [evA, arity, srcV, eI]
  by_cases h1 : op = 1
  · subst h1
    simp [evA, arity, srcV, eT]
  by_cases h2 : op = 2
  · subst h2
    simp [evA, arity, srcV, s_truth]
  by_cases h6 : op = 6
  · subst h6
    obtain ⟨t, rfl⟩ := one hl
    simp [evA, arity, oneVal, s_truth, gv, e1]
  by_cases h7 : op = 7
  · subst h7
    obtain ⟨t, rfl⟩ := one hl
    simp [evA, arity, oneVal, eI, gv, e1]
  by_cases h20 : op = 20
  · subst h20
    obtain ⟨t, rfl⟩ := one hl
    simp [evA, arity, oneVal, eI, gv, e2]
  have ha : arity op = 2 := by
    unfold arity
    simp [h0, h1, h2, h3, h6, h7, h20]
  rw [ha] at hl
  obtain ⟨t, u, rfl⟩ := two hl
  have rt := hr t (by simp)
  have ru := hr u (by simp)
  have g0 : gv [t, u] 0 = t := rfl
  have g1 : gv [t, u] 1 = u := rfl
  rw [g0, g1] at hk
  unfold evA
  simp only [ha, g0, g1]
  unfold twoVal
  by_cases o8 : op = 8
  · subst o8; simp [e1, eI, numOp]
  by_cases o9 : op = 9
  · subst o9; simp [e1, eI, numOp]
  by_cases o10 : op = 10
  · subst o10; simp [e1, eI, numOp]
  by_cases o11 : op = 11
  · subst o11
    by_cases hz : u.n = 0 <;> simp [e1, eI, numOp, hz]
  by_cases o12 : op = 12
  · subst o12
    by_cases hz : u.n = 0 <;> simp [e1, eI, numOp, hz]
  by_cases o13 : op = 13
  · subst o13; simp [s_truth]
  by_cases o14 : op = 14
  · subst o14; simp [s_truth]
  by_cases o15 : op = 15
  · subst o15
    have := (less_cmp rt ru (hk (.inl rfl))).1
    simp [s_truth, s_less, this]
  by_cases o16 : op = 16
  · subst o16
    have := (less_cmp rt ru (hk (.inr rfl))).2
    simp [s_truth, s_less, this]
  by_cases o17 : op = 17
  · subst o17; simp [s_truth, e1]
  by_cases o18 : op = 18
  · subst o18; simp [s_truth, e1]
  have o19 : op = 19 := by omega
  subst o19
  have hlt : ∀ {v : Val}, rightV v = true → v.s.length ≤ 200 := by
    intro v hv
    rcases right_cases hv with ⟨_, h⟩ | ⟨_, _, h⟩ | ⟨_, _, h⟩
    · simp [h]
    · exact h
    · simp [h]
  have lt1 := hlt rt
  have lt2 := hlt ru
  have hf : (t.s.length : Int) + (u.s.length : Int) ≤ 34359738368 := by omega
  have hcc : (t.s ++ u.s).take (if (200 : Int) < (t.s.length : Int) + (u.s.length : Int) then (200 : Int) else (t.s.length : Int) + (u.s.length : Int)).toNat = (t.s ++ u.s).take 200 := by
    split
    · rfl
    · have h : (t.s ++ u.s).length ≤ 200 := by rw [List.length_append]; omega
      rw [List.take_of_length_le h, List.take_of_length_le]
      rw [List.length_append]
      omega
  have hb2 : (0 ≤ if (200 : Int) < (t.s.length : Int) + (u.s.length : Int) then (200 : Int) else (t.s.length : Int) + (u.s.length : Int)) ∧ (if (200 : Int) < (t.s.length : Int) + (u.s.length : Int) then (200 : Int) else (t.s.length : Int) + (u.s.length : Int)) ≤ (t.s.length : Int) + (u.s.length : Int) := by split <;> omega
  simp only [asA_agg', at_zero, at_one, rowD_asL, List.map_cons, List.map_nil, Int.toNat_zero, Int.toNat_one, e2, asS_str', asB_fits]
  simp [hf, eT, cat2]
  rw [if_pos hb2, hcc]
  rfl

theorem s_runX (x : Ins) (time : Int) (row vs : List Val) (hop : isOp x.op = true) (hl : vs.length = arity x.op) (hr : ∀ v ∈ vs, rightV v = true) (hk : x.op = 15 ∨ x.op = 16 → (gv vs 0).kind = (gv vs 1).kind) (hc : x.op = 3 → 0 ≤ x.n ∧ x.n.toNat < row.length) :
    ∃ k : Int, R 88 [.list [], .agg [.int x.op, .int x.n, .str x.s, .list (vs.map cE)], .int time, rowD row, .list []] = some [.agg [(evA x time row vs).d, .int k]] := by
  rw [r88, e88]
  have hop' := hop
  simp only [isOp, decide_eq_true_eq] at hop'
  have hle := arity_le x.op
  by_cases h21 : x.op = 21
  · have ha : arity x.op = 3 := by rw [h21]; rfl
    rw [ha] at hl
    match vs, hl with
    | [a, b, c], _ =>
    obtain ⟨k1, q1⟩ := s_runC a (hr a (by simp)) (.int time) (rowD row)
    obtain ⟨k2, q2⟩ := s_runC b (hr b (by simp)) (.int time) (rowD row)
    obtain ⟨k3, q3⟩ := s_runC c (hr c (by simp)) (.int time) (rowD row)
    have e1 : at_ a.d.asA 1 = .int a.n := rfl
    have ev : evA x time row [a, b, c] = if a.n = 1 then b else c := by
      unfold evA
      rw [ha]
      rfl
    rw [ev]
    by_cases hn : a.n = 1
    · exact ⟨_, by simp [h21, q1, q2, e1, hn]; rfl⟩
    · exact ⟨_, by simp [h21, q1, q3, e1, hn]; rfl⟩
  have h22 : ¬ x.op = 22 := by omega
  have h4 : ¬ x.op = 4 := by omega
  simp [h21, h22, h4]
  generalize hL : loopL _ _ = L
  obtain ⟨o, rfl, k, hP⟩ := loop_list hL vs.length (fun i v => ∃ k : Int, v = [.int i, .int k, .list ((vs.take i).map Val.d)]) (fun o => ∃ k : Int, o = (1507334, [.int k, .list (vs.map Val.d)])) ⟨1, rfl⟩ (by
    rintro i v hi ⟨k, rfl⟩
    left
    have hm := at_map cE vs i hi
    obtain ⟨k1, q1⟩ := s_runC vs[i] (hr _ (List.getElem_mem hi)) (.int time) (rowD row)
    have hf : ((min i vs.length : Nat) : Int) + 1 ≤ 34359738368 := by omega
    have ht := take_map_snoc Val.d vs i hi
    refine ⟨[.int (i + 1 : Nat), .int (IntKind.wrap .i64 (k + k1)), .list ((vs.take (i + 1)).map Val.d)], ?_, _, rfl⟩
    simp [hi, hm, q1, hf, wrap_nat (n := i) (by omega), ht]) (by
    rintro v ⟨k, rfl⟩
    rw [List.take_length]
    exact ⟨_, by simp, by simp, k, rfl⟩)
  subst hP
  refine ⟨k, ?_⟩
  by_cases h3 : x.op = 3
  · obtain ⟨c1, c2⟩ := hc h3
    have hv := at_val c2
    have c3 : x.n < row.length := by omega
    have ev : evA x time row vs = gv row x.n.toNat := by unfold evA srcV; rw [h3]; rfl
    rw [ev]
    simp [h3, c1, c3, hv]
  by_cases h5 : x.op = 5
  · have ev : evA x time row vs = vInt time := by unfold evA srcV; rw [h5]; rfl
    rw [ev]
    simp [h5, vInt, Val.d]
  have hp := s_applyX x time row vs (.list (vs.map cE)) hop hl hr hk ⟨h3, h5, h21⟩
  unfold rowD at hp
  simp [h3, h5, hp]
end Go.Proofs.YtlbckmllpciglaaDoor
