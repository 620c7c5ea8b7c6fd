/- What the functions on programs answer: checking an instruction, a program. -/
import Derived.Test.YtlbckmllpciglaaDoorVmF
set_option linter.unusedVariables false
set_option linter.unusedSimpArgs false
set_option linter.all false
namespace Go.Proofs.YtlbckmllpciglaaDoor
open Go Sy

def scopeD (cols ps : List Int) : D := .agg [.list [], intsD cols, intsD ps]
theorem s_of0 (cols ps : List Int) (r : Int) : R 78 [scopeD cols ps, parD r] = some [.int (pick ps r).1, .bool (pick ps r).2] := by
  rw [r78, e78]
  generalize hL : loopL _ _ = L
  obtain rfl := loop_to hL 0 (fun _ => [.int 0, .list []]) (458758, [.list []]) rfl (by omega) (by simp [parD]) (by simp)
  have h := s_leaf (.list []) cols ps 4 r [] (.list [])
  have e : leafTy cols ps 4 r [] = pick ps r := by simp [leafTy]
  rw [e] at h
  simp [parD, scopeD, h]

def insTy (cols ps : List Int) (x : Ins) (args : List Int) : Int × Bool := if args = [] then leafTy cols ps x.op x.n x.s else opTy x.op x.n (args.map fun r => gi ps r.toNat)
theorem s_of1 (cols ps : List Int) (x : Ins) (args : List Int) (hl : args.length ≤ 3) (hr : ∀ r ∈ args, pick ps r = (gi ps r.toNat, true)) (hs : x.op = 1 ∨ x.s = []) (hop : x.op ≠ 22) :
    R 78 [scopeD cols ps, insX x args] = some [.int (insTy cols ps x args).1, .bool (insTy cols ps x args).2] := by
  rw [r78, e78]
  generalize hL : loopL _ _ = L
  obtain rfl := loop_to hL args.length (fun i => [.int i, intsD ((args.take i).map fun r => gi ps r.toNat)]) (458758, [intsD (args.map fun r => gi ps r.toNat)]) rfl (by
    intro i hi
    have hm := at_map parD args i hi
    have ho := s_of0 cols ps args[i]
    rw [hr _ (List.getElem_mem hi)] at ho
    have hf : ((min i args.length : Nat) : Int) + 1 ≤ 34359738368 := by omega
    have ht := take_map_snoc (D.int ∘ fun r => gi ps r.toNat) args i hi
    simp only [Function.comp_apply] at ht
    simp [insX, hi, hm, ho, wrap_nat (n := i) (by omega), hf, intsD, ht]) (by simp [insX]) (by simp)
  have h22 : (x.op == 22) = false := by simpa using hop
  unfold insTy
  by_cases ha : args = []
  · subst ha
    have h := s_leaf (.list []) cols ps x.op x.n x.s (.list [])
    have h' : R 89 [scopeD cols ps, insX x []] = _ := h
    have e1 : (((intsD ([] : List Int)).asL.length : Int) == 0) = true := rfl
    rcases hs with hs | hs
    · simp [insX, hs, h22, scopeD] at h' ⊢
      simp [h']
    · simp [insX, hs, h22, scopeD] at h' ⊢
      simp [h', hop]
  · have hpos : 0 < (args.map fun r => gi ps r.toNat).length := by
      rw [List.length_map]
      exact List.length_pos_iff.2 ha
    have h := s_operation x.op x.n x.s (.list (args.map parD)) (args.map fun r => gi ps r.toNat) (by simp; omega) hpos
    have h0 : ((args.length : Int) == 0) = false := by
      simp only [List.length_map] at hpos
      simp; exact ha
    rcases hs with hs | hs
    · simp [insX, hs, h22, h0, ha]
      rw [hs] at h
      simp [h]
    · simp [insX, hs, h22, h0, ha]
      rw [hs] at h
      simp [h, hop]

def norm (p : Int × Bool) : Int × Bool := if p.2 then (p.1, true) else (0, false)
theorem s_type (cols ps : List Int) (x : Ins) (args : List Int) (hl : args.length ≤ 3) (hr : ∀ r ∈ args, pick ps r = (gi ps r.toNat, true)) (hs : x.op = 1 ∨ x.s = []) (hop : x.op ≠ 22) :
    R 41 [.list [], intsD cols, intsD ps, insX x args] = some [.int (norm (insTy cols ps x args)).1, .bool (norm (insTy cols ps x args)).2] := by
  have h0 : R 57 [.list []] = some [.bool true] := by
    rw [r57, e57]
    generalize hL : loopL _ _ = L
    obtain rfl := loop_to hL 0 (fun _ => [.int 0]) (589830, []) rfl (by omega) (by simp) (by simp)
    simp
  have h1 : R 58 [scopeD cols ps, insX x args] = some [.int (norm (insTy cols ps x args)).1, .bool (norm (insTy cols ps x args)).2] := by
    rw [r58, e58]
    obtain ⟨k, hk, hlev⟩ := s_levels1 x.op x.n x.s args (by omega)
    have hlev' : R 77 [insX x args] = _ := hlev
    have hk' : ¬ 12 < k := by omega
    have ho := s_of1 cols ps x args hl hr hs hop
    unfold norm
    cases hb : (insTy cols ps x args).2 <;> simp [hlev', hk', ho, hb]
  have h1' : R 58 [.agg [.list [], intsD cols, intsD ps], insX x args] = _ := h1
  rw [r41, e41]
  simp [h0, h1']

/-- Does a register lie outside? -/
def outside (n : Nat) (r : Int) : Bool := decide (r < 0) || decide ((n : Int) ≤ r)
/-- What is said of an instruction. -/
def verI (cols ps : List Int) (done : List Bool) (x : Ins) : Int :=
  if formed x = false then 2 else if (x.to :: operands x).any (outside ps.length) = true then 3 else
  if ((x.op == 3) && outside cols.length x.n) = true then 3 else if (operands x).any (fun r => !gb done r.toNat) = true then 25 else
  if ((!(norm (insTy cols ps x (operands x))).2) || !((norm (insTy cols ps x (operands x))).1 == gi ps x.to.toNat)) = true then 13 else 0

theorem operands_le (x : Ins) : (operands x).length ≤ 3 := by unfold operands; simp; omega
theorem formed_op {x : Ins} (h : formed x = true) : isOp x.op = true ∧ (x.op = 1 ∨ x.s = []) ∧ x.s.length ≤ 200 ∧ bare x = x := by
  simp only [formed, Bool.and_eq_true, beq_iff_eq, decide_eq_true_eq] at h
  obtain ⟨⟨⟨h1, h2⟩, h3⟩, _⟩ := h
  refine ⟨h1, ?_, by omega, h2⟩
  by_cases hop : x.op = 1
  · exact .inl hop
  · right
    have : (bare x).s = x.s := by rw [h2]
    simp only [bare, if_neg hop] at this
    exact this.symm
theorem pick_in {l : List Int} {r : Int} (hr : outside l.length r = false) (hk : l.all kindOK = true) : pick l r = (gi l r.toNat, true) := by
  simp only [outside, Bool.or_eq_false_iff, decide_eq_false_iff_not] at hr
  refine if_pos ⟨by omega, by omega, ?_⟩
  have hlt : r.toNat < l.length := by omega
  have e : gi l r.toNat = l[r.toNat] := by
    unfold gi
    rw [List.getD_eq_getElem?_getD, List.getElem?_eq_getElem hlt]
    rfl
  rw [e]
  exact List.all_eq_true.1 hk _ (List.getElem_mem hlt)

theorem s_verify (cols ps : List Int) (done : List Bool) (x : Ins) (hk : ps.all kindOK = true) (hd : done.length = ps.length) : R 26 [x.d, intsD cols, intsD ps, boolsD done] = some [.int (verI cols ps done x)] := by
  rw [r26, e26]
  have hx0 : at_ x.d.asA 0 = .int x.op := rfl
  have hx1 : at_ x.d.asA 1 = .int x.to := rfl
  have hx5 : at_ x.d.asA 5 = .int x.n := rfl
  have hx6 : at_ x.d.asA 6 = .str x.s := rfl
  simp only [hx0, hx1, hx5, hx6, s_formed, s_operands, Option.bind_some]
  unfold verI
  cases hf : formed x
  · simp
  obtain ⟨hop, hs, hlen, _⟩ := formed_op hf
  have hle := operands_le x
  have hfit : (1 : Int) + ((operands x).length : Int) ≤ 34359738368 := by omega
  generalize hbA : (x.to :: operands x).any (outside ps.length) = bA
  generalize hbC : (x.op == 3 && outside cols.length x.n) = bC
  generalize hbD : (operands x).any (fun r => !gb done r.toNat) = bD
  have hout : (decide (x.n < 0) || decide ((cols.length : Int) ≤ x.n)) = outside cols.length x.n := rfl
  simp [hop, hfit]
  generalize hL : loopL _ _ = L
  have hA := loop_any hL (x.to :: operands x) (outside ps.length) (2, [.int 3]) (720902, []) rfl (by simp) (by simp) (by
    intro i hi
    have e : at_ (D.int x.to :: (operands x).map D.int) i = .int (x.to :: operands x)[i] := by
      have := at_map D.int (x.to :: operands x) i hi
      simpa using this
    have hi' : (i : Int) < (operands x).length + 1 := by simp at hi; omega
    simp [e, hi', outside, wrap_nat (n := i) (by simp at hi; omega)]) (by simp)
  clear hL
  subst hA
  rw [hbA]
  cases bA
  case true => simp
  have hin : ∀ r ∈ x.to :: operands x, outside ps.length r = false := by
    intro r hr
    have := List.any_eq_false.1 hbA r hr
    simpa using this
  have hC : (x.op = 3 ∧ (x.n < 0 ∨ (cols.length : Int) ≤ x.n)) ↔ bC = true := by
    rw [← hbC, ← hout]
    simp
  simp only [hC]
  cases bC
  case true => simp
  simp only [Bool.false_eq_true, if_false, if_true, Option.bind_some]
  -- are they done?
  have hdone : R 24 [intsD (operands x), .fn 40 [] [.ptr (boolsD done)]] = some [.bool bD] := by
    have h := s_contains ((operands x).map D.int) (.fn 40 [] [.ptr (boolsD done)]) (fun d => !gb done d.asI.toNat) (by simp; omega) (by
      intro d hd'
      obtain ⟨r, hr, rfl⟩ := List.mem_map.1 hd'
      have ho := hin r (List.mem_cons_of_mem _ hr)
      simp only [outside, Bool.or_eq_false_iff, decide_eq_false_iff_not] at ho
      have h1 : 0 ≤ r := by omega
      have h2 : r < done.length := by omega
      simp only [callD_fn, List.nil_append, List.singleton_append]
      rw [r40, e40]
      simp [h1, h2])
    rw [List.any_map] at h
    rw [← hbD]
    exact h
  simp only [hdone, Option.bind_some, at_zero, asB_bool']
  cases bD
  case true => simp
  simp only [Bool.false_eq_true, if_false]
  generalize hL : loopL _ _ = L
  have hB := loop_to hL (operands x).length (fun i => [.int i, .list (((operands x).map parD).take i)]) (2162696, [.list ((operands x).map parD)]) rfl (by
    intro i hi
    have e := at_map D.int (operands x) i hi
    have hm : ((min i (operands x).length : Nat) : Int) + 1 ≤ 34359738368 := by omega
    have hi' : (i : Int) < (operands x).length := by omega
    have ht := take_map_snoc parD (operands x) i hi
    simp only [parD] at ht
    simp [e, hi', hm, wrap_nat (n := i) (by omega), ht, parD]) (by simp [List.take_of_length_le]) (by simp)
  clear hL
  subst hB
  have hT := s_type cols ps x (operands x) hle (fun r hr => pick_in (hin r (List.mem_cons_of_mem _ hr)) hk) hs (by
    rintro h22
    simp [isOp, h22] at hop)
  unfold insX at hT
  have hto := hin x.to (List.mem_cons_self ..)
  simp only [outside, Bool.or_eq_false_iff, decide_eq_false_iff_not] at hto
  have h1 : 0 ≤ x.to := by omega
  have h2 : x.to < ps.length := by omega
  generalize norm (insTy cols ps x (operands x)) = q at hT ⊢
  obtain ⟨t, b⟩ := q
  cases b
  · simp [hT]
  · by_cases hq : t = gi ps x.to.toNat <;> simp [hT, h1, h2, hq]

/-- The registers that have results, behind some instructions; what is said of the first that is wrong. -/
def verGo (cols ps : List Int) : List Ins → Nat → List Bool → Int × Int ⊕ List Bool
  | [], _, done => .inr done
  | x :: l, i, done => if verI cols ps done x = 0 then verGo cols ps l (i + 1) (done.set x.to.toNat true) else .inl (i, verI cols ps done x)
def verC (c : Prg) (cols : List Int) : Int × Int :=
  if 1000 < c.ins.length ∨ 1000 < c.types.length then (-1, 6) else if c.types.all kindOK = false then (-1, 13) else
  match verGo cols c.types c.ins 0 (List.replicate c.types.length false) with
  | .inl p => p
  | .inr done => if outside c.types.length c.out = true then (-1, 3) else if gb done c.out.toNat = false then (-1, 25) else (-1, 0)

theorem verI_to {cols ps : List Int} {done : List Bool} {x : Ins} (h : verI cols ps done x = 0) : 0 ≤ x.to ∧ x.to < ps.length := by
  unfold verI at h
  split at h
  · simp at h
  split at h
  · simp at h
  rename_i _ h2
  have : outside ps.length x.to = false := by
    have := List.any_eq_false.1 (Bool.not_eq_true _ ▸ h2 : (x.to :: operands x).any (outside ps.length) = false) x.to (List.mem_cons_self ..)
    simpa using this
  simp only [outside, Bool.or_eq_false_iff, decide_eq_false_iff_not] at this
  omega
theorem verGo_len {cols ps : List Int} : ∀ {l : List Ins} {i : Nat} {done d' : List Bool}, verGo cols ps l i done = .inr d' → d'.length = done.length
  | [], i, done, d', h => by simp only [verGo, Sum.inr.injEq] at h; rw [h]
  | x :: l, i, done, d', h => by
    simp only [verGo] at h
    split at h
    · rw [verGo_len h]; simp
    · simp at h

theorem s_Verify (c : Prg) (cols : List Int) : R 9 [c.d, intsD cols] = some [.int (verC c cols).1, .int (verC c cols).2] := by
  rw [r9, e9]
  obtain ⟨ins, types, out⟩ := c
  simp only [Prg.d, asA_agg', at_zero, at_one, at_two, asL_list', intsD_asL, List.length_map, asI_int']
  unfold verC
  by_cases hlen : 1000 < ins.length ∨ 1000 < types.length
  · have : (decide ((1000 : Int) < (ins.length : Int)) || decide ((1000 : Int) < (types.length : Int))) = true := by
      rcases hlen with h | h <;> simp <;> omega
    simp [this, hlen]
  have hlen1 : ¬ (1000 : Int) < ins.length := by omega
  have hlen2 : ¬ (1000 : Int) < types.length := by omega
  have hk : R 24 [intsD types, .fn 25 [] []] = some [.bool (!types.all kindOK)] := by
    have h := s_contains (types.map D.int) (.fn 25 [] []) (fun d => !kindOK d.asI) (by simp; omega) (by
      intro d hd
      obtain ⟨t, _, rfl⟩ := List.mem_map.1 hd
      simp only [callD_fn, List.nil_append, List.append_nil]
      rw [r25, e25]
      simp
      rw [Bool.eq_iff_iff]
      simp [kindOK]
      try omega)
    rw [List.any_map] at h
    have e : (types.any ((fun d : D => !kindOK d.asI) ∘ D.int)) = !types.all kindOK := by
      clear h hlen hlen2
      induction types with
      | nil => rfl
      | cons x l ih => rw [List.any_cons, ih, List.all_cons, Bool.not_and]; rfl
    rw [e] at h
    exact h
  have hfit : (types.length : Int) ≤ 34359738368 := by omega
  generalize hK : types.all kindOK = bK at hk
  cases bK
  · simp [hlen1, hlen2, hlen, hk]
  simp [hlen1, hlen2, hlen, hk, hfit]
  generalize hL : loopL _ _ = L
  obtain ⟨o, rfl, hP⟩ := loop_list hL ins.length (fun i v => ∃ done, v = [.int i, boolsD done] ∧ done.length = types.length ∧ verGo cols types (ins.drop i) i done = verGo cols types ins 0 (List.replicate types.length false))
    (fun o => match verGo cols types ins 0 (List.replicate types.length false) with
      | .inl p => o = (2, [.int p.1, .int p.2])
      | .inr d => o = (983046, [boolsD d])) ⟨List.replicate types.length false, by simp [boolsD], by simp, rfl⟩ (by
    rintro i v hi ⟨done, rfl, hd, hv⟩
    rw [List.drop_eq_getElem_cons hi] at hv
    simp only [verGo] at hv
    have hm := at_map Ins.d ins i hi
    have hs := s_verify cols types done ins[i] hK hd
    unfold boolsD at hs
    have hto : at_ (ins[i]).d.asA 1 = .int ins[i].to := rfl
    by_cases h0 : verI cols types done ins[i] = 0
    · left
      rw [if_pos h0] at hv
      obtain ⟨t1, t2⟩ := verI_to h0
      have t2' : ins[i].to < done.length := by omega
      refine ⟨[.int (i + 1 : Nat), boolsD (done.set ins[i].to.toNat true)], ?_, _, rfl, by simpa using hd, hv⟩
      simp [hi, hm, hs, h0, hto, t1, t2', wrap_nat (n := i) (by omega), boolsD, List.map_set]
    · right
      rw [if_neg h0] at hv
      refine ⟨(2, [.int i, .int (verI cols types done ins[i])]), ?_, by simp, ?_⟩
      · simp [hi, hm, hs, h0, boolsD]
      · rw [← hv]) (by
    rintro v ⟨done, rfl, hd, hv⟩
    refine ⟨(983046, [boolsD done]), by simp, by simp, ?_⟩
    rw [List.drop_length] at hv
    simp only [verGo] at hv
    rw [← hv])
  cases hg : verGo cols types ins 0 (List.replicate types.length false) with
  | inl p =>
    rw [hg] at hP
    simp only at hP
    subst hP
    simp
  | inr d =>
    rw [hg] at hP
    simp only at hP
    subst hP
    have hdl := verGo_len hg
    simp at hdl
    simp only [outside]
    by_cases ho : out < 0 ∨ (types.length : Int) ≤ out
    · have : (decide (out < 0) || decide ((types.length : Int) ≤ out)) = true := by simpa using ho
      simp [this, ho]
    · have h1 : ¬ out < 0 := by omega
      have h2 : ¬ (types.length : Int) ≤ out := by omega
      have h3 : 0 ≤ out := by omega
      have h4 : out < d.length := by omega
      cases hq : gb d out.toNat <;> simp [h1, h2, h3, h4, hq]
end Go.Proofs.YtlbckmllpciglaaDoor
