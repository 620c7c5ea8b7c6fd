/- The reference for programs: Verify. -/
import Derived.Test.YtlbckmllpciglaaDoorVmXb
set_option linter.unusedVariables false
set_option linter.unusedSimpArgs false
set_option linter.all false
namespace Go.Proofs.YtlbckmllpciglaaDoor
open Go Sy

theorem any_not_kind : ∀ l : List Int, l.any (fun t => !kindOK t) = !l.all kindOK
  | [] => rfl
  | x :: l => by rw [List.any_cons, any_not_kind l, List.all_cons, Bool.not_and]

theorem step_or {fv : Option Out} {inv : List D → Prop} {P : Out → Prop} (o : Out) (h : fv = some o) (h0 : o.1 = 0 → inv o.2) (h1 : o.1 ≠ 0 → P o) : (∃ v', fv = some (0, v') ∧ inv v') ∨ ∃ o, fv = some o ∧ o.1 ≠ 0 ∧ P o := by
  by_cases h2 : o.1 = 0
  · left
    obtain ⟨t, l⟩ := o
    simp only at h2
    subst h2
    exact ⟨l, h, h0 rfl⟩
  · exact .inr ⟨o, h, h2, h1 h2⟩
theorem s_refVerify (c : Prg) (cols : List Int) : R 30 [c.d, intsD cols] = some [.int (verC c cols).1, .int (verC c cols).2] := by
  rw [r30, e30]
  obtain ⟨ins, types, out⟩ := c
  simp only [Prg.d, asA_agg', at_zero, at_one, at_two, asL_list', intsD_asL, List.length_map, asI_int']
  unfold verC
  by_cases hlen : 1000 < ins.length ∨ 1000 < types.length
  · have : (decide ((1000 : Int) < (ins.length : Int)) || decide ((1000 : Int) < (types.length : Int))) = true := by
      rcases hlen with h | h <;> simp <;> omega
    simp [this, hlen]
  have hlen1 : ¬ (1000 : Int) < ins.length := by omega
  have hlen2 : ¬ (1000 : Int) < types.length := by omega
  generalize hK : types.all kindOK = bK
  simp [hlen1, hlen2, hlen]
  generalize hL : loopL _ _ = L
  have hA := loop_any hL types (fun t => !kindOK t) (2, [.int (-1), .int 13]) (589830, []) rfl (by simp) (by simp) (by
    intro i hi
    have e := gi_at' hi
    by_cases hk : types[i] < 0
    · simp [hi, e, hk, kindOK]
    · by_cases hk2 : 3 ≤ types[i]
      · simp [hi, e, hk, hk2, kindOK]
      · simp [hi, e, hk, hk2, kindOK, wrap_nat (n := i) (by omega)]) (by simp)
  rw [any_not_kind, hK] at hA
  clear hL
  subst hA
  cases bK
  · simp
  have hfit : (types.length : Int) ≤ 34359738368 := by omega
  simp [hfit]
  generalize hL : loopL _ _ = L
  obtain ⟨o, rfl, hP⟩ := loop_list hL ins.length (fun i v => ∃ done, v = [.int i, boolsD done] ∧ done.length = types.length ∧ verGo cols types (ins.drop i) i done = verGo cols types ins 0 (List.replicate types.length false))
    (fun o => match verGo cols types ins 0 (List.replicate types.length false) with
      | .inl p => o = (2, [.int p.1, .int p.2])
      | .inr d => o = (1376264, [boolsD d])) ⟨List.replicate types.length false, by simp [boolsD], by simp, rfl⟩ (by
    rintro i v hi ⟨done, rfl, hd, hv⟩
    rw [List.drop_eq_getElem_cons hi] at hv
    simp only [verGo] at hv
    have hm := at_map Ins.d ins i hi
    generalize ins[i] = x at *
    have hx0 : at_ x.d.asA 0 = .int x.op := rfl
    have hx1 : at_ x.d.asA 1 = .int x.to := rfl
    have hx5 : at_ x.d.asA 5 = .int x.n := rfl
    have hF := s_refFormed x
    have hO := s_refOperands x
    refine step_or (if verI cols types done x = 0 then (0, [.int (i + 1 : Nat), boolsD (done.set x.to.toNat true)]) else (2, [.int i, .int (verI cols types done x)])) ?_ ?_ ?_
    rotate_left
    · intro h0
      have h1 : verI cols types done x = 0 := by
        apply Decidable.byContradiction
        intro hne
        rw [if_neg hne] at h0
        simp at h0
      rw [if_pos h1] at hv ⊢
      exact ⟨_, rfl, by simpa using hd, hv⟩
    · intro h0
      have h1 : ¬ verI cols types done x = 0 := by
        intro he
        rw [if_pos he] at h0
        simp at h0
      rw [if_neg h1] at hv ⊢
      rw [← hv]
    unfold verI
    cases hf : formed x
    · rw [hf] at hF
      simp [hi, hm, hF]
    obtain ⟨hop, hs, hsl, _⟩ := formed_op hf
    rw [hf] at hF
    rw [hop] at hO
    simp only [if_true] at hO
    have hle := operands_le x
    have hfit : (1 : Int) + ((operands x).length : Int) ≤ 34359738368 := by omega
    have houtC : (decide (x.n < 0) || decide ((cols.length : Int) ≤ x.n)) = outside cols.length x.n := rfl
    generalize hbA : (x.to :: operands x).any (outside types.length) = bA
    generalize hbC : (x.op == 3 && outside cols.length x.n) = bC
    generalize hbD : (operands x).any (fun r => !gb done r.toNat) = bD
    have hC : (x.op = 3 ∧ (x.n < 0 ∨ (cols.length : Int) ≤ x.n)) ↔ bC = true := by
      rw [← hbC, ← houtC]
      simp
    simp [hi, hm, hF, hO, hfit, hx0, hx1, hx5, hC]
    generalize hL : loopL _ _ = L
    have hA := loop_any hL (x.to :: operands x) (outside types.length) (2, [.int i, .int 3]) (2293770, [.bool false, .int ((operands x).length + 1), .int ((operands x).length + 1)]) rfl (by simp) (by simp) (by
      intro k hk
      have e : at_ (D.int x.to :: (operands x).map D.int) k = .int (x.to :: operands x)[k] := by
        have := at_map D.int (x.to :: operands x) k hk
        simpa using this
      have hk' : (k : Int) < (operands x).length + 1 := by simp at hk; omega
      by_cases h1 : (x.to :: operands x)[k] < 0
      · simp [e, hk', outside, h1]
      · by_cases h2 : (types.length : Int) ≤ (x.to :: operands x)[k]
        · simp [e, hk', outside, h1, h2]
        · simp [e, hk', outside, h1, h2, wrap_nat (n := k) (by simp at hk; omega)]) (by simp)
    rw [hbA] at hA
    clear hL
    subst hA
    cases bA
    case true => simp
    cases bC
    case true => simp
    have hin : ∀ r ∈ x.to :: operands x, outside types.length r = false := by
      intro r hr
      have := List.any_eq_false.1 hbA r hr
      simpa using this
    simp
    generalize hL : loopL _ _ = L
    have hB : L = some (if bD then (2, [.int i, .int 25]) else (3211276, [.bool false, .int ((operands x).length + 1), .int ((operands x).length + 1)])) := by
      obtain ⟨o, h1, h2⟩ := loop_list hL (operands x).length (fun k v => v = [.int ((k : Int) + 1)] ∧ ((operands x).take k).any (fun r => !gb done r.toNat) = false) (fun o => o = if bD then (2, [.int i, .int 25]) else (3211276, [.bool false, .int ((operands x).length + 1), .int ((operands x).length + 1)])) ⟨rfl, rfl⟩ (by
        rintro k v hk ⟨rfl, hv⟩
        have ht := any_take_succ hk hv
        have e : at_ (D.int x.to :: (operands x).map D.int) (k + 1) = .int (operands x)[k] := by
          have := at_map D.int (operands x) k hk
          simpa [at_] using this
        have ho := hin _ (List.mem_cons_of_mem _ (List.getElem_mem hk))
        simp only [outside, Bool.or_eq_false_iff, decide_eq_false_iff_not] at ho
        have g1 : 0 ≤ (operands x)[k] := by omega
        have g2 : (operands x)[k] < done.length := by omega
        have hk2 : (k : Int) + 1 < (operands x).length + 1 := by omega
        have hk3 : (0 : Int) ≤ (k : Int) + 1 := by omega
        have hk4 : ((k : Int) + 1).toNat = k + 1 := by omega
        cases hb : gb done (operands x)[k].toNat
        · right
          refine ⟨(2, [.int i, .int 25]), ?_, by simp, ?_⟩
          · simp [hk2, hk3, hk4, e, g1, g2, hb]
          · rw [if_pos]
            rw [← hbD, List.any_eq_true]
            exact ⟨_, List.getElem_mem hk, by simp [hb]⟩
        · left
          refine ⟨_, ?_, rfl, by rw [ht, hb]; rfl⟩
          simp [hk2, hk3, hk4, e, g1, g2, hb, wrap64 (n := (k : Int) + 1 + 1) (by omega)]) (by
        rintro v ⟨rfl, hv⟩
        rw [List.take_length, hbD] at hv
        subst hv
        exact ⟨_, by simp, by simp, rfl⟩)
      rw [h1, h2]
    clear hL
    subst hB
    cases bD
    case true => simp
    have hT := s_refTyped x cols types hop (fun r hr => pick_in (hin r (List.mem_cons_of_mem _ hr)) hK) hs
    unfold intsD at hT
    have hto := hin x.to (List.mem_cons_self ..)
    simp only [outside, Bool.or_eq_false_iff, decide_eq_false_iff_not] at hto
    have h1 : 0 ≤ x.to := by omega
    have h2 : x.to < types.length := by omega
    generalize norm (insTy cols types x (operands x)) = q at hT ⊢
    obtain ⟨t, b⟩ := q
    cases b
    · simp [hT, intsD]
    · by_cases hq : t = gi types x.to.toNat <;> simp [hT, h1, h2, hd, hq, intsD, boolsD, List.map_set, wrap_nat (n := i) (by omega)]) (by
    rintro v ⟨done, rfl, hd, hv⟩
    refine ⟨(1376264, [boolsD done]), by simp, by simp, ?_⟩
    rw [List.drop_length] at hv
    simp only [verGo] at hv
    rw [← hv])
  cases hg : verGo cols types ins 0 (List.replicate types.length false) with
  | inl p =>
    rw [hg] at hP
    simp only at hP
    subst hP
    simp
  | inr d =>
    rw [hg] at hP
    simp only at hP
    subst hP
    have hdl := verGo_len hg
    simp at hdl
    simp only [outside]
    by_cases ho : out < 0 ∨ (types.length : Int) ≤ out
    · have : (decide (out < 0) || decide ((types.length : Int) ≤ out)) = true := by simpa using ho
      simp [this, ho]
    · have h1 : ¬ out < 0 := by omega
      have h2 : ¬ (types.length : Int) ≤ out := by omega
      have h3 : 0 ≤ out := by omega
      have h4 : out < d.length := by omega
      cases hq : gb d out.toNat <;> simp [h1, h2, h3, h4, hq]
end Go.Proofs.YtlbckmllpciglaaDoor
