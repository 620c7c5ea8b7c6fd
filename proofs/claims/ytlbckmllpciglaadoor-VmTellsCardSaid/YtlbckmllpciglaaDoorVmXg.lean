/- Runs, selections, projections: the machine's, and the reference's. -/
import Derived.Test.YtlbckmllpciglaaDoorVmXf
set_option linter.unusedVariables false
set_option linter.unusedSimpArgs false
set_option linter.all false
namespace Go.Proofs.YtlbckmllpciglaaDoor
open Go Sy

theorem fits_all {cols : List Int} {l : List Delta} (h : fits cols l = true) : ∀ t ∈ l, fitsRow cols t = true := List.all_eq_true.1 h
theorem s_refRun (c : Prg) (cols : List Int) (l : List Delta) (hl : l.length ≤ 1048576) (hc : cols.length ≤ big) : R 12 [c.d, intsD cols, deltasD l] = some [rowD (runC c cols l).1, .int (runC c cols l).2] := by
  rw [r12, e12]
  unfold runC
  have hV := s_refVerify c cols
  by_cases h0 : (verC c cols).2 = 0
  case neg => simp [hV, h0, rowD]
  have h1 := verC_zero h0
  have hF := s_fits27 cols l (by unfold big; omega) hc
  cases hb : fits cols l
  · rw [hb] at hF
    simp [hV, h0, hF, rowD]
  rw [hb] at hF
  have hO := (okay_iff c cols).1 h1
  have hr := fits_all hb
  simp [hV, h0, hF]
  generalize hL : loopL _ _ = L
  have hA := loop_to hL l.length (fun i => [.int i, .list ((l.map fun t => (valRow c t).d).take i)]) (1114118, [rowD (l.map (valRow c))]) rfl (by
    intro i hi
    have hm := at_map Delta.d l i hi
    have d0 : at_ (l[i]).d.asA 0 = .int (l[i]).time := rfl
    have d1 : at_ (l[i]).d.asA 1 = rowD (l[i]).row := rfl
    have hv := s_refValue c cols l[i] hO (hr _ (List.getElem_mem hi))
    have hf : ((min i l.length : Nat) : Int) + 1 ≤ 34359738368 := by omega
    have ht := take_map_snoc (fun t => (valRow c t).d) l i hi
    simp [hi, hm, d0, d1, hv, hf, wrap_nat (n := i) (by omega), ht]) (by simp [rowD, List.take_of_length_le, Function.comp_def]) (by simp)
  clear hL
  subst hA
  simp

def selC (c : Prg) (cols : List Int) (l : List Delta) : List Delta × Int :=
  if (verC c cols).2 ≠ 0 then ([], (verC c cols).2) else if gi c.types c.out.toNat ≠ 2 then ([], 13) else if fits cols l = false then ([], 16) else (l.filter fun t => (valRow c t).n == 1, 0)
theorem s_select (c : Prg) (cols : List Int) (l : List Delta) (hl : l.length ≤ 1048576) (hc : cols.length ≤ big) (hr : ∀ t ∈ l, t.row.length ≤ 1048576) : R 13 [c.d, intsD cols, deltasD l] = some [deltasD (selC c cols l).1, .int (selC c cols l).2] := by
  rw [r13, e13]
  unfold selC
  have hV := s_Verify c cols
  have k1 : at_ c.d.asA 1 = intsD c.types := rfl
  have k2 : at_ c.d.asA 2 = .int c.out := rfl
  by_cases h0 : (verC c cols).2 = 0
  case neg => simp [hV, h0, deltasD]
  have h1 := verC_zero h0
  have hO := ((okay_iff c cols).1 h1).out
  have ho : c.out < c.types.length := by omega
  have gt := at_ints (l := c.types) (i := c.out.toNat) hO.2
  by_cases h2 : gi c.types c.out.toNat = 2
  case neg => simp [hV, h0, k1, k2, hO.1, ho, gt, h2, deltasD]
  have hR := s_Run c cols l hl hc
  unfold runC at hR
  rw [if_neg (by simp [h0])] at hR
  cases hb : fits cols l
  · rw [hb] at hR
    simp at hR
    simp [hV, h0, k1, k2, hO.1, ho, gt, h2, hR]
    rfl
  rw [hb] at hR
  simp at hR
  simp [hV, h0, k1, k2, hO.1, ho, gt, h2, hR]
  generalize hL : loopL _ _ = L
  have hA := loop_to hL l.length (fun i => [.int i, deltasD ((l.take i).filter fun t => (valRow c t).n == 1)]) (1507334, [deltasD (l.filter fun t => (valRow c t).n == 1)]) rfl (by
    intro i hi
    have hm := at_map Delta.d l i hi
    have d0 : at_ (l[i]).d.asA 0 = .int (l[i]).time := rfl
    have d1 : at_ (l[i]).d.asA 1 = rowD (l[i]).row := rfl
    have d2 : at_ (l[i]).d.asA 2 = .int (l[i]).n := rfl
    have hv := at_map (fun t => (valRow c t).d) l i hi
    have v1 : at_ (valRow c l[i]).d.asA 1 = .int (valRow c l[i]).n := rfl
    have hcl := s_clone ((l[i]).row.map Val.d) (by have := hr _ (List.getElem_mem hi); simp; omega)
    have hfl : ((l.take i).filter fun t => (valRow c t).n == 1).length ≤ i := by
      have := List.length_filter_le (fun t => (valRow c t).n == 1) (l.take i)
      have h3 : (l.take i).length ≤ i := by simp; omega
      omega
    have hf : ((((l.take i).filter fun t => (valRow c t).n == 1).length : Nat) : Int) + 1 ≤ 34359738368 := by omega
    rw [List.take_succ_eq_append_getElem hi, List.filter_append]
    generalize ((l.take i).filter fun t => (valRow c t).n == 1) = acc at *
    have hdd : D.agg [.int (l[i]).time, .list ((l[i]).row.map Val.d), .int (l[i]).n] = (l[i]).d := rfl
    by_cases hn : (valRow c l[i]).n = 1
    · simp [hi, hm, d0, d1, d2, hv, rowD, Function.comp_def, v1, hn, hcl, hf, hdd, wrap_nat (n := i) (by omega), deltasD]
    · simp [hi, hm, d0, d1, d2, hv, rowD, Function.comp_def, v1, hn, wrap_nat (n := i) (by omega), deltasD]) (by simp) (by simp)
  clear hL
  subst hA
  simp
theorem s_refSelect (c : Prg) (cols : List Int) (l : List Delta) (hl : l.length ≤ 1048576) (hc : cols.length ≤ big) : R 14 [c.d, intsD cols, deltasD l] = some [deltasD (selC c cols l).1, .int (selC c cols l).2] := by
  rw [r14, e14]
  unfold selC
  have hV := s_refVerify c cols
  have k1 : at_ c.d.asA 1 = intsD c.types := rfl
  have k2 : at_ c.d.asA 2 = .int c.out := rfl
  by_cases h0 : (verC c cols).2 = 0
  case neg => simp [hV, h0, deltasD]
  have h1 := verC_zero h0
  have hO := ((okay_iff c cols).1 h1).out
  have ho : c.out < c.types.length := by omega
  have gt := at_ints (l := c.types) (i := c.out.toNat) hO.2
  by_cases h2 : gi c.types c.out.toNat = 2
  case neg => simp [hV, h0, k1, k2, hO.1, ho, gt, h2, deltasD]
  have hR := s_refRun c cols l hl hc
  unfold runC at hR
  rw [if_neg (by simp [h0])] at hR
  cases hb : fits cols l
  · rw [hb] at hR
    simp at hR
    simp [hV, h0, k1, k2, hO.1, ho, gt, h2, hR]
    rfl
  rw [hb] at hR
  simp at hR
  simp [hV, h0, k1, k2, hO.1, ho, gt, h2, hR]
  generalize hL : loopL _ _ = L
  have hA := loop_to hL l.length (fun i => [.int i, deltasD ((l.take i).filter fun t => (valRow c t).n == 1)]) (1507334, [deltasD (l.filter fun t => (valRow c t).n == 1)]) rfl (by
    intro i hi
    have hm := at_map Delta.d l i hi
    have hv := at_map (fun t => (valRow c t).d) l i hi
    have v1 : at_ (valRow c l[i]).d.asA 1 = .int (valRow c l[i]).n := rfl
    have hfl : ((l.take i).filter fun t => (valRow c t).n == 1).length ≤ i := by
      have := List.length_filter_le (fun t => (valRow c t).n == 1) (l.take i)
      have h3 : (l.take i).length ≤ i := by simp; omega
      omega
    have hf : ((((l.take i).filter fun t => (valRow c t).n == 1).length : Nat) : Int) + 1 ≤ 34359738368 := by omega
    rw [List.take_succ_eq_append_getElem hi, List.filter_append]
    generalize ((l.take i).filter fun t => (valRow c t).n == 1) = acc at *
    by_cases hn : (valRow c l[i]).n = 1
    · simp [hi, hm, hv, rowD, Function.comp_def, v1, hn, hf, wrap_nat (n := i) (by omega), deltasD]
    · simp [hi, hm, hv, rowD, Function.comp_def, v1, hn, wrap_nat (n := i) (by omega), deltasD]) (by simp) (by simp)
  clear hL
  subst hA
  simp

theorem s_same27 (l : List Delta) (hl : l.length ≤ big) (hr : ∀ t ∈ l, t.row.length ≤ big) : R 15 [deltasD l, deltasD l] = some [.bool true] := by
  unfold big at hl
  rw [r15, e15]
  simp
  generalize hL : loopL _ _ = L
  have hA := loop_to hL l.length (fun i => [.int i]) (589830, []) rfl (by
    intro i hi
    have hm := at_map Delta.d l i hi
    have d0 : at_ (l[i]).d.asA 0 = .int (l[i]).time := rfl
    have d1 : at_ (l[i]).d.asA 1 = rowD (l[i]).row := rfl
    have d2 : at_ (l[i]).d.asA 2 = .int (l[i]).n := rfl
    have hs := s_same (l[i]).row (l[i]).row (hr _ (List.getElem_mem hi)) (hr _ (List.getElem_mem hi))
    simp only [BEq.rfl] at hs
    simp [hi, hm, d0, d1, d2, hs, wrap_nat (n := i) (by omega)]) (by simp) (by simp)
  clear hL
  subst hA
  simp

/-- What is said of the first program that is not right. -/
def firstE (cols : List Int) : List Prg → Option Int
  | [] => none
  | c :: cs => if (verC c cols).2 ≠ 0 then some (verC c cols).2 else firstE cols cs
theorem firstE_none {cols : List Int} : ∀ {cs : List Prg}, firstE cols cs = none → ∀ c ∈ cs, verC c cols = (-1, 0)
  | [], _, c, h => by simp at h
  | x :: cs, h, c, hc => by
    simp only [firstE] at h
    split at h
    · simp at h
    · rename_i h0
      rcases List.mem_cons.1 hc with rfl | hc
      · exact verC_zero (by simpa using h0)
      · exact firstE_none h c hc
theorem loop_first {f : List D → Option Out} {L : Option Out} (hL : loopL f [.int 0] = L) (cs : List Prg) (cols : List Int) (E : Out) (hE : E.1 ≠ 0)
    (hs : ∀ i (hi : i < cs.length), f [.int i] = if (verC cs[i] cols).2 ≠ 0 then some (2, [.list [], .int (verC cs[i] cols).2]) else some (0, [.int (i + 1 : Nat)])) (he : f [.int cs.length] = some E) :
    L = some (match firstE cols cs with | some e => (2, [.list [], .int e]) | none => E) := by
  obtain ⟨o, h1, h2⟩ := loop_list hL cs.length (fun i v => v = [.int i] ∧ firstE cols (cs.drop i) = firstE cols cs) (fun o => o = match firstE cols cs with | some e => (2, [.list [], .int e]) | none => E) ⟨rfl, rfl⟩ (by
    rintro i v hi ⟨rfl, hv⟩
    rw [List.drop_eq_getElem_cons hi, firstE] at hv
    by_cases h0 : (verC cs[i] cols).2 ≠ 0
    · right
      rw [if_pos h0] at hv
      refine ⟨_, by rw [hs i hi, if_pos h0], by simp, ?_⟩
      rw [← hv]
    · left
      rw [if_neg h0] at hv
      exact ⟨_, by rw [hs i hi, if_neg h0], rfl, hv⟩) (by
    rintro v ⟨rfl, hv⟩
    rw [List.drop_length] at hv
    exact ⟨E, he, hE, by rw [← hv]; rfl⟩)
  rw [h1, h2]
def projC (cs : List Prg) (cols : List Int) (l : List Delta) : List Delta × Int :=
  if cs.length = 0 ∨ 12 < cs.length then ([], 1) else match firstE cols cs with
  | some e => ([], e)
  | none => if fits cols l = false then ([], 16) else (l.map fun t => ⟨t.time, cs.map fun c => valRow c t, t.n⟩, 0)

theorem mix_at {α : Type} (f g : α → D) (l : List α) {i : Nat} (hi : i < l.length) : at_ ((l.take i).map f ++ (l.drop i).map g) i = g l[i] := by
  rw [at_eq (by simp; omega), List.getElem_append_right (by simp; omega)]
  simp
  congr 2
  omega
theorem mix_set {α : Type} (f g : α → D) (l : List α) {i : Nat} (hi : i < l.length) : ((l.take i).map f ++ (l.drop i).map g).set i (f l[i]) = (l.take (i + 1)).map f ++ (l.drop (i + 1)).map g := by
  rw [List.set_append_right _ _ (by simp; omega), List.drop_eq_getElem_cons hi, List.take_succ_eq_append_getElem hi]
  have : i - ((l.take i).map f).length = 0 := by simp; omega
  rw [this, List.map_cons, List.set_cons_zero, List.map_append, List.append_assoc]
  rfl
theorem mix_len {α : Type} (f g : α → D) (l : List α) {i : Nat} (hi : i ≤ l.length) : ((l.take i).map f ++ (l.drop i).map g).length = l.length := by
  simp
  omega

theorem s_project (cs : List Prg) (cols : List Int) (l : List Delta) (hl : l.length ≤ 1048576) (hc : cols.length ≤ big) : R 16 [.list (cs.map Prg.d), intsD cols, deltasD l] = some [deltasD (projC cs cols l).1, .int (projC cs cols l).2] := by
  rw [r16, e16]
  unfold projC
  by_cases h0 : cs.length = 0 ∨ 12 < cs.length
  · have : (((cs.length : Int) == 0) || decide ((12 : Int) < (cs.length : Int))) = true := by
      rcases h0 with h | h
      · simp [h]
      · have : (12 : Int) < (cs.length : Int) := by omega
        simp [this]
    simp only [asL_list', List.length_map, this, if_true]
    rw [if_pos h0]
    rfl
  have h0' : (((cs.length : Int) == 0) || decide ((12 : Int) < (cs.length : Int))) = false := by
    rw [Bool.or_eq_false_iff]
    exact ⟨by rw [beq_eq_false_iff_ne]; omega, by rw [decide_eq_false_iff_not]; omega⟩
  simp only [asL_list', List.length_map, h0', Bool.false_eq_true, if_false]
  rw [if_neg h0]
  generalize hL : loopL _ _ = L
  have hA := loop_first hL cs cols (589830, []) (by simp) (by
    intro i hi
    have hm := at_map Prg.d cs i hi
    have hV := s_Verify cs[i] cols
    by_cases h1 : (verC cs[i] cols).2 = 0 <;> simp [hi, hm, hV, h1, wrap_nat (n := i) (by omega)]) (by simp)
  clear hL
  subst hA
  cases hF : firstE cols cs with
  | some e => simp [deltasD]
  | none =>
    have hall := firstE_none hF
    have hFit := s_fits cols l (by unfold big; omega) hc
    cases hb : fits cols l
    · rw [hb] at hFit
      simp [hFit]
      rfl
    rw [hb] at hFit
    have hfit : (l.length : Int) ≤ 34359738368 := by omega
    simp [hFit, hfit]
    generalize hL : loopL _ _ = L
    have hB := loop_to hL l.length (fun i => [.int i, .list ((l.map fun t => (⟨t.time, [], t.n⟩ : Delta).d).take i ++ List.replicate ((l.map fun t => (⟨t.time, [], t.n⟩ : Delta).d).length - i) (.agg [.int 0, .list [], .int 0]))]) (1900552, [deltasD (l.map fun t => ⟨t.time, [], t.n⟩)]) (by simp) (by
      intro i hi
      have hm := at_map Delta.d l i hi
      have d0 : at_ (l[i]).d.asA 0 = .int (l[i]).time := rfl
      have d2 : at_ (l[i]).d.asA 2 = .int (l[i]).n := rfl
      have hs := fill_set (l.map fun t => (⟨t.time, [], t.n⟩ : Delta).d) (.agg [.int 0, .list [], .int 0]) i (by simpa using hi)
      rw [List.getElem_map] at hs
      have h2 : ((min i l.length : Nat) : Int) + ((l.length - i : Nat) : Int) = l.length := by omega
      have h3 : (i : Int) < ((min i l.length : Nat) : Int) + ((l.length - i : Nat) : Int) := by omega
      have hdd : D.agg [.int (l[i]).time, .list [], .int (l[i]).n] = (⟨(l[i]).time, [], (l[i]).n⟩ : Delta).d := rfl
      simp only [List.length_map] at hs ⊢
      simp [hi, hm, d0, d2, h3, wrap_nat (n := i) (by omega)]
      rw [hdd]
      simpa using hs) (by simp [deltasD, List.take_of_length_le]) (by simp)
    clear hL
    subst hB
    simp
    generalize hL : loopL _ _ = L
    have hC := loop_to hL cs.length (fun k => [.int k, deltasD (l.map fun t => ⟨t.time, (cs.take k).map fun c => valRow c t, t.n⟩)]) (2555914, [deltasD (l.map fun t => ⟨t.time, cs.map fun c => valRow c t, t.n⟩)]) (by simp [deltasD]) (by
      intro k hk
      have hm := at_map Prg.d cs k hk
      have hR := s_run cs[k] cols l (hall _ (List.getElem_mem hk)) hb hl
      simp [hk, hm, hR]
      generalize hL : loopL _ _ = L
      have hD := loop_to hL l.length (fun i => [.int i, .list ((l.take i).map (fun t => (⟨t.time, (cs.take (k + 1)).map fun c => valRow c t, t.n⟩ : Delta).d) ++ (l.drop i).map fun t => (⟨t.time, (cs.take k).map fun c => valRow c t, t.n⟩ : Delta).d)])
        (2949132, [.bool false, .int l.length, deltasD (l.map fun t => ⟨t.time, (cs.take (k + 1)).map fun c => valRow c t, t.n⟩)]) (by simp [deltasD]) (by
        intro i hi
        have hv := at_map (fun t => (valRow cs[k] t).d) l i hi
        have m1 := mix_at (fun t => (⟨t.time, (cs.take (k + 1)).map fun c => valRow c t, t.n⟩ : Delta).d) (fun t => (⟨t.time, (cs.take k).map fun c => valRow c t, t.n⟩ : Delta).d) l hi
        have m2 := mix_set (fun t => (⟨t.time, (cs.take (k + 1)).map fun c => valRow c t, t.n⟩ : Delta).d) (fun t => (⟨t.time, (cs.take k).map fun c => valRow c t, t.n⟩ : Delta).d) l hi
        have m3 := mix_len (fun t => (⟨t.time, (cs.take (k + 1)).map fun c => valRow c t, t.n⟩ : Delta).d) (fun t => (⟨t.time, (cs.take k).map fun c => valRow c t, t.n⟩ : Delta).d) l (Nat.le_of_lt hi)
        have hlast : (⟨(l[i]).time, (cs.take (k + 1)).map fun c => valRow c l[i], (l[i]).n⟩ : Delta).d = .agg (((⟨(l[i]).time, (cs.take k).map fun c => valRow c l[i], (l[i]).n⟩ : Delta).d).asA.set 1 (.list ((at_ ((⟨(l[i]).time, (cs.take k).map fun c => valRow c l[i], (l[i]).n⟩ : Delta).d).asA 1).asL ++ [(valRow cs[k] l[i]).d]))) := by
          simp [Delta.d, rowD]
          exact (take_map_snoc (Val.d ∘ fun c => valRow c l[i]) cs k hk).symm
        have hrl : (at_ ((⟨(l[i]).time, (cs.take k).map fun c => valRow c l[i], (l[i]).n⟩ : Delta).d).asA 1).asL.length ≤ 12 := by
          simp [Delta.d, rowD]
          omega
        rw [hlast] at m2
        generalize (l.take i).map (fun t => (⟨t.time, (cs.take (k + 1)).map fun c => valRow c t, t.n⟩ : Delta).d) ++ (l.drop i).map (fun t => (⟨t.time, (cs.take k).map fun c => valRow c t, t.n⟩ : Delta).d) = X at *
        rw [← m2]
        have hf : ((at_ ((⟨(l[i]).time, (cs.take k).map fun c => valRow c l[i], (l[i]).n⟩ : Delta).d).asA 1).asL.length : Int) + 1 ≤ 34359738368 := by omega
        generalize ((⟨(l[i]).time, (cs.take k).map fun c => valRow c l[i], (l[i]).n⟩ : Delta).d) = old at *
        simp [hi, rowD, Function.comp_def, hv, m1, m3, hf, wrap_nat (n := i) (by omega)]) (by simp [deltasD, Function.comp_def]) (by simp)
      clear hL
      subst hD
      simp [wrap_nat (n := k) (by omega)]) (by simp) (by simp)
    clear hL
    subst hC
    simp

theorem s_refProject (cs : List Prg) (cols : List Int) (l : List Delta) (hl : l.length ≤ 1048576) (hc : cols.length ≤ big) : R 17 [.list (cs.map Prg.d), intsD cols, deltasD l] = some [deltasD (projC cs cols l).1, .int (projC cs cols l).2] := by
  rw [r17, e17]
  unfold projC
  by_cases h0 : cs.length = 0 ∨ 12 < cs.length
  · have : (decide ((cs.length : Int) < 1) || decide ((12 : Int) < (cs.length : Int))) = true := by
      rcases h0 with h | h
      · simp [h]
      · have : (12 : Int) < (cs.length : Int) := by omega
        simp [this]
    simp only [asL_list', List.length_map, this, if_true]
    rw [if_pos h0]
    rfl
  have h0' : (decide ((cs.length : Int) < 1) || decide ((12 : Int) < (cs.length : Int))) = false := by
    rw [Bool.or_eq_false_iff]
    exact ⟨by rw [decide_eq_false_iff_not]; omega, by rw [decide_eq_false_iff_not]; omega⟩
  simp only [asL_list', List.length_map, h0', Bool.false_eq_true, if_false]
  rw [if_neg h0]
  generalize hL : loopL _ _ = L
  have hA := loop_first hL cs cols (589830, []) (by simp) (by
    intro i hi
    have hm := at_map Prg.d cs i hi
    have hV := s_refVerify cs[i] cols
    by_cases h1 : (verC cs[i] cols).2 = 0 <;> simp [hi, hm, hV, h1, wrap_nat (n := i) (by omega)]) (by simp)
  clear hL
  subst hA
  cases hF : firstE cols cs with
  | some e => simp [deltasD]
  | none =>
    have hall := firstE_none hF
    have hFit := s_fits27 cols l (by unfold big; omega) hc
    cases hb : fits cols l
    · rw [hb] at hFit
      simp [hFit]
      rfl
    rw [hb] at hFit
    have hr := fits_all hb
    simp [hFit]
    generalize hL : loopL _ _ = L
    have hB := loop_to hL l.length (fun i => [.int i, .list ((l.map fun t => (⟨t.time, cs.map fun c => valRow c t, t.n⟩ : Delta).d).take i)]) (1769480, [deltasD (l.map fun t => ⟨t.time, cs.map fun c => valRow c t, t.n⟩)]) (by simp) (by
      intro i hi
      have hm := at_map Delta.d l i hi
      have d0 : at_ (l[i]).d.asA 0 = .int (l[i]).time := rfl
      have d1 : at_ (l[i]).d.asA 1 = rowD (l[i]).row := rfl
      have d2 : at_ (l[i]).d.asA 2 = .int (l[i]).n := rfl
      have ht := take_map_snoc (fun t => (⟨t.time, cs.map fun c => valRow c t, t.n⟩ : Delta).d) l i hi
      have hf : ((min i l.length : Nat) : Int) + 1 ≤ 34359738368 := by omega
      simp [hi, hm, d0, d1, d2]
      generalize hL : loopL _ _ = L
      have hC := loop_to hL cs.length (fun k => [.int k, .list ((cs.map fun c => (valRow c l[i]).d).take k)]) (2293770, [.bool false, .int cs.length, .int cs.length, rowD (cs.map fun c => valRow c l[i])]) (by simp) (by
        intro k hk
        have hmk := at_map Prg.d cs k hk
        have hv := s_refValue cs[k] cols l[i] ((okay_iff _ _).1 (hall _ (List.getElem_mem hk))) (hr _ (List.getElem_mem hi))
        have htk := take_map_snoc (fun c => (valRow c l[i]).d) cs k hk
        have hfk : ((min k cs.length : Nat) : Int) + 1 ≤ 34359738368 := by omega
        simp [hk, hi, hmk, hm, d0, d1, hv, hfk, wrap_nat (n := k) (by omega), htk]) (by simp [rowD, List.take_of_length_le, Function.comp_def]) (by simp)
      clear hL
      subst hC
      have hdd : D.agg [.int (l[i]).time, rowD (cs.map fun c => valRow c l[i]), .int (l[i]).n] = (⟨(l[i]).time, cs.map fun c => valRow c l[i], (l[i]).n⟩ : Delta).d := rfl
      simp [hf, wrap_nat (n := i) (by omega), hdd, ht]) (by simp [deltasD, List.take_of_length_le, Function.comp_def]) (by simp)
    clear hL
    subst hB
    simp
end Go.Proofs.YtlbckmllpciglaaDoor
