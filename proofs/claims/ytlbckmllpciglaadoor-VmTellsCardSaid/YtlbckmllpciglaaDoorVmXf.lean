/- The reference for programs: the value of a program for a row. -/
import Derived.Test.YtlbckmllpciglaaDoorVmXe
import Derived.Test.YtlbckmllpciglaaDoorVmO
set_option linter.unusedVariables false
set_option linter.unusedSimpArgs false
set_option linter.all false
namespace Go.Proofs.YtlbckmllpciglaaDoor
open Go Sy

/-- What each instruction yields. -/
def valsGo (t : Delta) : List Ins → List Val → List Val
  | [], _ => []
  | x :: l, ρ => insVal x t ρ :: valsGo t l (stepRow t ρ x)
theorem valsGo_len (t : Delta) : ∀ (l : List Ins) (ρ : List Val), (valsGo t l ρ).length = l.length
  | [], _ => rfl
  | x :: l, ρ => by simp [valsGo, valsGo_len t l]
theorem stepRow_len (t : Delta) (ρ : List Val) (x : Ins) : (stepRow t ρ x).length = ρ.length := by simp [stepRow]

theorem s_results (c : Prg) (cols : List Int) (t : Delta) (hv : Okay c cols) (ht : fitsRow cols t = true) : R 51 [c.d, .int t.time, rowD t.row] = some [rowD (valsGo t c.ins (List.replicate c.types.length default))] := by
  rw [r51, e51]
  obtain ⟨ins, types, out⟩ := c
  obtain ⟨hlen, hk, ⟨dF, hgo, _⟩, _⟩ := hv
  simp only at hlen hk hgo
  simp only [Prg.d, asA_agg', at_zero, at_one, at_two, asL_list', intsD_asL, List.length_map, asI_int']
  have hfit : (types.length : Int) ≤ 34359738368 := by omega
  have hz : D.list (List.replicate types.length (.agg [.int 0, .int 0, .str []])) = rowD (List.replicate types.length default) := by
    unfold rowD
    rw [List.map_replicate]
    rfl
  simp [hfit, hz]
  generalize hL : loopL _ _ = L
  obtain ⟨o, rfl, hP⟩ := loop_list hL ins.length (fun i v => ∃ (done : List Bool) (ρ outs : List Val), v = [.int i, rowD ρ, rowD outs] ∧ done.length = types.length ∧ ρ.length = types.length ∧ outs.length = i ∧ regOK types done ρ ∧
      verGo cols types (ins.drop i) i done = .inr dF ∧ outs ++ valsGo t (ins.drop i) ρ = valsGo t ins (List.replicate types.length default))
    (fun o => o = (589830, [rowD (valsGo t ins (List.replicate types.length default))]))
    ⟨List.replicate types.length false, List.replicate types.length default, [], rfl, by simp, by simp, rfl, by intro r hr; rw [gb_none] at hr; simp at hr, hgo, rfl⟩ (by
    rintro i v hi ⟨done, ρ, outs, rfl, hd, hρ, ho, hR, hg, hV⟩
    left
    rw [List.drop_eq_getElem_cons hi] at hg hV
    simp only [verGo] at hg
    split at hg
    case isFalse => simp at hg
    rename_i h0
    obtain ⟨k1, k2, k3, k4⟩ := verI_ok h0
    have hm := at_map Ins.d ins i hi
    generalize ins[i] = x at *
    have hx0 : at_ x.d.asA 0 = .int x.op := rfl
    have hx1 : at_ x.d.asA 1 = .int x.to := rfl
    have hx5 : at_ x.d.asA 5 = .int x.n := rfl
    have hx6 : at_ x.d.asA 6 = .str x.s := rfl
    have hop := (formed_op k1).1
    have hO := s_refOperands x
    rw [hop] at hO
    simp only [if_true] at hO
    have hle := operands_le x
    obtain ⟨⟨w1, w2⟩, w3⟩ := insVal_right h0 hR ht
    have kt := k2 _ (List.mem_cons_self ..)
    have kt2 : x.to < ρ.length := by omega
    have hlo : (operands x).length = arity x.op := by
      have := arity_le x.op
      unfold operands
      simp
      omega
    obtain ⟨kk, hE⟩ := s_runX x t.time t.row ((operands x).map fun r => gv ρ r.toNat) hop (by rw [List.length_map, hlo]) (by
      intro v hv
      obtain ⟨r, hr, rfl⟩ := List.mem_map.1 hv
      exact (hR _ (k4 r hr)).1) w3 (by
      intro h3
      have := k3 h3
      have := (rowTexts ht).1
      omega)
    rw [evA_insVal] at hE
    have hEv : R 74 [.list [], .agg [.int x.op, .int x.n, .str x.s, .list (((operands x).map fun r => gv ρ r.toNat).map cE)], .int t.time, rowD t.row] = some [(insVal x t ρ).d] := by
      rw [r74, e74, hE]
      simp
    have f1 : (outs.length : Int) + 1 ≤ 34359738368 := by omega
    refine ⟨[.int (i + 1 : Nat), rowD (stepRow t ρ x), rowD (outs ++ [insVal x t ρ])], ?_, done.set x.to.toNat true, stepRow t ρ x, outs ++ [insVal x t ρ], rfl, by simpa using hd, by rw [stepRow_len, hρ], by simp [ho], ?_, hg, by simpa [valsGo] using hV⟩
    · simp [hi, hm, hO, hx0, hx1, hx5, hx6]
      generalize hL : loopL _ _ = L
      have hA := loop_to hL (operands x).length (fun k => [.int k, .list (((operands x).map fun r => cE (gv ρ r.toNat)).take k)]) (1376264, [.bool false, .int (operands x).length, .int (operands x).length, .list ((operands x).map fun r => cE (gv ρ r.toNat))]) (by simp) (by
        intro k hk
        have e := gi_at' hk
        have hr := k2 _ (List.mem_cons_of_mem _ (List.getElem_mem hk))
        have hr2 : (operands x)[k] < ρ.length := by omega
        have hvl := at_val (l := ρ) (i := (operands x)[k].toNat) (by omega)
        have hm := take_map_snoc (fun r => cE (gv ρ r.toNat)) (operands x) k hk
        have hf : ((min k (operands x).length : Nat) : Int) + 1 ≤ 34359738368 := by omega
        simp [hk, e, hr.1, hr2, hvl, s_constant, hf, wrap_nat (n := k) (by omega), hm]) (by simp [List.take_of_length_le]) (by simp)
      clear hL
      subst hA
      have hEv' := hEv
      rw [List.map_map] at hEv'
      simp only [Function.comp_def, rowD] at hEv'
      simp [hEv', kt.1, kt2, f1, wrap_nat (n := i) (by omega), stepRow, rowD, List.map_set]
    · intro r hr
      rw [gb_set] at hr
      unfold stepRow
      rw [gv_set]
      by_cases e : x.to.toNat = r
      · rw [if_pos ⟨e, by omega⟩]
        subst e
        exact ⟨w1, w2⟩
      · rw [if_neg (by omega)] at hr ⊢
        exact hR r hr) (by
    rintro v ⟨done, ρ, outs, rfl, hd, hρ, ho, hR, hg, hV⟩
    rw [List.drop_length] at hV
    simp only [valsGo, List.append_nil] at hV
    subst hV
    exact ⟨_, by simp, by simp, rfl⟩)
  subst hP
  simp

theorem s_refLast (c : Prg) (out : Int) (n : Nat) (hn : c.ins.length = n) (hl : n ≤ 1000) : ∃ k : Int, R 52 [c.d, .int n, .int out] = some [.int k] ∧
    ((k = -1 ∧ ∀ x ∈ c.ins, x.to ≠ out) ∨ ∃ n : Nat, k = n ∧ ∃ h : n < c.ins.length, (c.ins[n]).to = out ∧ ∀ j (hj : j < c.ins.length), n < j → (c.ins[j]).to ≠ out) := by
  rw [r52, e52]
  have k0 : at_ c.d.asA 0 = .list (c.ins.map Ins.d) := rfl
  simp only [k0, asL_list', List.length_map, asI_int']
  generalize hL : loopL _ _ = L
  obtain ⟨o, rfl, hP⟩ := loop_list hL n (fun i v => v = [.int ((n : Int) - 1 - i)] ∧ ∀ j (hj : j < c.ins.length), n - i ≤ j → (c.ins[j]).to ≠ out)
    (fun o => (o = (327686, []) ∧ ∀ x ∈ c.ins, x.to ≠ out) ∨ ∃ m : Nat, o = (2, [.int m]) ∧ ∃ h : m < c.ins.length, (c.ins[m]).to = out ∧ ∀ j (hj : j < c.ins.length), m < j → (c.ins[j]).to ≠ out)
    ⟨by rw [wrap64 (by omega)]; simp, by intro j hj h; omega⟩ (by
    rintro i v hi ⟨rfl, hv⟩
    have e : ((n : Int) - 1 - i) = ((n - 1 - i : Nat) : Int) := by omega
    have hlt : n - 1 - i < c.ins.length := by omega
    have hm := at_map Ins.d c.ins (n - 1 - i) hlt
    have hto : at_ (c.ins[n - 1 - i]).d.asA 1 = .int (c.ins[n - 1 - i]).to := rfl
    have hi2 : ((n - 1 - i : Nat) : Int) < n := by omega
    by_cases ht : (c.ins[n - 1 - i]).to = out
    · right
      refine ⟨(2, [.int (n - 1 - i : Nat)]), ?_, by simp, .inr ⟨_, rfl, hlt, ht, fun j hj h => hv j hj (by omega)⟩⟩
      rw [e]
      simp [hi2, hm, hto, ht, hn]
    · left
      refine ⟨[.int ((n : Int) - 1 - (i + 1 : Nat))], ?_, rfl, fun j hj h => ?_⟩
      · have w : IntKind.wrap .i64 (((n - 1 - i : Nat) : Int) - 1) = (n : Int) - 1 - ((i + 1 : Nat) : Int) := by rw [wrap64 (by omega)]; omega
        rw [e, ← w]
        simp [hi2, hm, hto, ht, hn]
      · by_cases hj2 : j = n - 1 - i
        · subst hj2
          exact ht
        · exact hv j hj (by omega)) (by
    rintro v ⟨rfl, hv⟩
    have e : ((n : Int) - 1 - n) = -1 := by omega
    refine ⟨(327686, []), by simp [e], by simp, .inl ⟨rfl, fun x hx => ?_⟩⟩
    obtain ⟨j, hj, rfl⟩ := List.getElem_of_mem hx
    exact hv j hj (by omega))
  rcases hP with ⟨rfl, h⟩ | ⟨m, rfl, h⟩
  · exact ⟨-1, by simp, .inl ⟨rfl, h⟩⟩
  · exact ⟨m, by simp, .inr ⟨m, rfl, h⟩⟩

theorem run_keep (t : Delta) (r : Nat) : ∀ (l : List Ins) (ρ : List Val), (∀ x ∈ l, x.to.toNat ≠ r) → gv (runRow l t ρ) r = gv ρ r
  | [], ρ, _ => rfl
  | x :: l, ρ, h => by
    have := run_keep t r l (stepRow t ρ x) (fun y hy => h y (List.mem_cons_of_mem _ hy))
    show gv (runRow l t (stepRow t ρ x)) r = _
    rw [this]
    unfold stepRow
    rw [gv_set, if_neg (fun e => h x (List.mem_cons_self ..) e.1)]
theorem run_last (t : Delta) (r : Nat) : ∀ (l : List Ins) (ρ : List Val) (k : Nat) (hk : k < l.length), r < ρ.length → (l[k]).to.toNat = r → (∀ j (hj : j < l.length), k < j → (l[j]).to.toNat ≠ r) → gv (runRow l t ρ) r = gv (valsGo t l ρ) k
  | [], ρ, k, hk, _, _, _ => by simp at hk
  | x :: l, ρ, 0, hk, hr, h1, h2 => by
    show gv (runRow l t (stepRow t ρ x)) r = insVal x t ρ
    rw [run_keep t r l _ (fun y hy => by
      obtain ⟨j, hj, rfl⟩ := List.getElem_of_mem hy
      have := h2 (j + 1) (by simp; omega) (by omega)
      simpa using this)]
    unfold stepRow
    simp only [List.getElem_cons_zero] at h1
    rw [gv_set, if_pos ⟨h1, by omega⟩]
  | x :: l, ρ, k + 1, hk, hr, h1, h2 => by
    show gv (runRow l t (stepRow t ρ x)) r = gv (valsGo t l (stepRow t ρ x)) k
    refine run_last t r l _ k (by simpa using hk) (by rw [stepRow_len]; exact hr) (by simpa using h1) fun j hj hlt => ?_
    have := h2 (j + 1) (by simp; omega) (by omega)
    simpa using this
theorem verGo_done {cols ps : List Int} {r : Nat} : ∀ {l : List Ins} {i : Nat} {done d : List Bool}, verGo cols ps l i done = .inr d → gb d r = true → gb done r = true ∨ ∃ x ∈ l, x.to.toNat = r
  | [], _, _, _, h, hr => by
    simp only [verGo, Sum.inr.injEq] at h
    subst h
    exact .inl hr
  | x :: l, i, done, d, h, hr => by
    simp only [verGo] at h
    split at h
    · rcases verGo_done h hr with h1 | ⟨y, hy, h1⟩
      · rw [gb_set] at h1
        split at h1
        · rename_i h2
          exact .inr ⟨x, List.mem_cons_self .., h2.1⟩
        · exact .inl h1
      · exact .inr ⟨y, List.mem_cons_of_mem _ hy, h1⟩
    · simp at h

theorem s_refValue (c : Prg) (cols : List Int) (t : Delta) (hv : Okay c cols) (ht : fitsRow cols t = true) : R 31 [c.d, .int t.time, rowD t.row] = some [(valRow c t).d] := by
  rw [r31, e31]
  have hR := s_results c cols t hv ht
  have k0 : at_ c.d.asA 0 = .list (c.ins.map Ins.d) := rfl
  have k2 : at_ c.d.asA 2 = .int c.out := rfl
  obtain ⟨k, h1, h2⟩ := s_refLast c c.out _ rfl hv.len.1
  obtain ⟨d, g1, g2⟩ := hv.ins
  have hin := verGo_inside g1
  have hout := hv.out
  rcases h2 with ⟨rfl, h2⟩ | ⟨n, rfl, hn, h3, h4⟩
  · exfalso
    rcases verGo_done g1 g2 with h5 | ⟨x, hx, h5⟩
    · rw [gb_none] at h5
      simp at h5
    · have := (hin x hx).2 _ (List.mem_cons_self ..)
      exact h2 x hx (by omega)
  · have hlt : n < (valsGo t c.ins (List.replicate c.types.length default)).length := by rw [valsGo_len]; exact hn
    have hv2 := at_val hlt
    have e : valRow c t = gv (valsGo t c.ins (List.replicate c.types.length default)) n := by
      unfold valRow
      refine run_last t c.out.toNat c.ins _ n hn (by simp; omega) (by rw [h3]) fun j hj hlt => ?_
      have := (hin _ (List.getElem_mem hj)).2 _ (List.mem_cons_self ..)
      have := h4 j hj hlt
      omega
    have hlt' : n < c.ins.length := hn
    have hn0 : ¬ (n : Int) < 0 := by omega
    rw [e]
    simp [hR, k0, k2, h1, valsGo_len, hlt', hv2, hn0]
end Go.Proofs.YtlbckmllpciglaaDoor
