/- Which instructions are needed. -/
import Derived.Test.YtlbckmllpciglaaDoorVmK
set_option linter.unusedVariables false
set_option linter.unusedSimpArgs false
set_option linter.all false
namespace Go.Proofs.YtlbckmllpciglaaDoor
open Go Sy

/-- For each instruction those whose results it reads; which instruction has written each register last. -/
def srcGo : List Ins → Nat → List Int → List (List Int) × List Int
  | [], _, last => ([], last)
  | x :: l, i, last => (((operands x).map fun r => gi last r.toNat) :: (srcGo l (i + 1) (last.set x.to.toNat i)).1, (srcGo l (i + 1) (last.set x.to.toNat i)).2)
def last0 (n : Nat) : List Int := List.replicate n (-1)
def srcOf (c : Prg) : List (List Int) := (srcGo c.ins 0 (last0 c.types.length)).1
def lastOf (c : Prg) : List Int := (srcGo c.ins 0 (last0 c.types.length)).2
def valueOf (c : Prg) : Int := gi (lastOf c) c.out.toNat

theorem srcGo_len : ∀ (l : List Ins) (i : Nat) (last : List Int), (srcGo l i last).1.length = l.length ∧ (srcGo l i last).2.length = last.length
  | [], i, last => ⟨rfl, rfl⟩
  | x :: l, i, last => by
    obtain ⟨h1, h2⟩ := srcGo_len l (i + 1) (last.set x.to.toNat i)
    simp [srcGo, h1, h2]
/-- The instructions of a program are in order. -/
structure Okay (c : Prg) (cols : List Int) : Prop where
  len : c.ins.length ≤ 1000 ∧ c.types.length ≤ 1000
  kinds : c.types.all kindOK = true
  ins : ∃ d, verGo cols c.types c.ins 0 (List.replicate c.types.length false) = .inr d ∧ gb d c.out.toNat = true
  out : 0 ≤ c.out ∧ c.out.toNat < c.types.length
theorem okay_iff (c : Prg) (cols : List Int) : verC c cols = (-1, 0) ↔ Okay c cols := by
  constructor
  · intro hv
    unfold verC at hv
    split at hv
    · simp at hv
    rename_i hlen
    split at hv
    · simp at hv
    rename_i hk
    split at hv
    · rename_i p hp
      have := verGo_inl hp
      rw [hv] at this
      simp at this
    rename_i dF hgo
    split at hv
    · simp at hv
    rename_i hout
    split at hv
    · simp at hv
    rename_i hdone
    simp only [Bool.not_eq_true] at hout
    simp only [outside, Bool.or_eq_false_iff, decide_eq_false_iff_not] at hout
    exact ⟨by omega, by simpa using hk, ⟨dF, hgo, by simpa using hdone⟩, by omega⟩
  · rintro ⟨h1, h2, ⟨d, h3, h4⟩, h5⟩
    unfold verC
    rw [if_neg (by omega), if_neg (by simp [h2]), h3]
    simp only
    rw [if_neg (by simp [outside]; omega), if_neg (by simp [h4])]

/-- All operands, and the register that is written, lie inside. -/
def inside (n : Nat) (x : Ins) : Prop := isOp x.op = true ∧ ∀ r ∈ x.to :: operands x, 0 ≤ r ∧ r.toNat < n
theorem verGo_inside {cols ps : List Int} : ∀ {l : List Ins} {i : Nat} {done d : List Bool}, verGo cols ps l i done = .inr d → ∀ x ∈ l, inside ps.length x
  | [], _, _, _, _, x, hx => by simp at hx
  | y :: l, i, done, d, h, x, hx => by
    simp only [verGo] at h
    split at h
    · rename_i h0
      rcases List.mem_cons.1 hx with rfl | hx
      · obtain ⟨k1, k2, _, _⟩ := verI_ok h0
        exact ⟨(formed_op k1).1, k2⟩
      · exact verGo_inside h x hx
    · simp at h

theorem gi_at {l : List Int} {i : Nat} (h : i < l.length) : gi l i = l[i] := by
  unfold gi
  rw [List.getD_eq_getElem?_getD, List.getElem?_eq_getElem h]
  rfl
theorem gi_set (l : List Int) (i r : Nat) (v : Int) : gi (l.set i v) r = if i = r ∧ i < l.length then v else gi l r := by
  unfold gi
  rw [List.getD_eq_getElem?_getD, List.getD_eq_getElem?_getD, List.getElem?_set]
  by_cases h : i = r
  · subst h
    by_cases h2 : i < l.length
    · simp [h2]
    · simp [h2]
  · simp [h]
def rowsI (l : List (List Int)) : D := .list (l.map intsD)
theorem s_sources (c : Prg) (hlen : c.ins.length ≤ 1000 ∧ c.types.length ≤ 1000) (hin : ∀ x ∈ c.ins, inside c.types.length x) (hout : 0 ≤ c.out ∧ c.out.toNat < c.types.length) :
    R 35 [c.d] = some [rowsI (srcOf c), .int (valueOf c)] := by
  rw [r35, e35]
  obtain ⟨ins, types, out⟩ := c
  simp only at hlen hin hout
  simp only [Prg.d, asA_agg', at_zero, at_one, at_two, asL_list', intsD_asL, List.length_map, asI_int']
  have hfit : (types.length : Int) ≤ 34359738368 := by omega
  simp [hfit]
  generalize hL : loopL _ _ = L
  have h1 := loop_to hL types.length (fun i => [.int i, .list (((List.replicate types.length (D.int (-1))).take i) ++ List.replicate ((List.replicate types.length (D.int (-1))).length - i) (.int 0))]) (458758, [intsD (last0 types.length)]) (by simp) (by
    intro i hi
    have hs := fill_set (List.replicate types.length (D.int (-1))) (.int 0) i (by simpa using hi)
    have hmin : ((min i types.length : Nat) : Int) + ((types.length - i : Nat) : Int) = types.length := by omega
    have h3 : (i : Int) < ((min i types.length : Nat) : Int) + ((types.length - i : Nat) : Int) := by omega
    simp only [List.length_replicate, List.getElem_replicate] at hs ⊢
    simp [hi, h3, wrap_nat (n := i) (by omega)]
    simpa using hs) (by simp [intsD, last0]) (by simp)
  clear hL
  subst h1
  simp
  generalize hL : loopL _ _ = L
  obtain ⟨o, rfl, hP⟩ := loop_list hL ins.length
    (fun i v => ∃ (last : List Int) (acc : List (List Int)), v = [.int i, intsD last, rowsI acc] ∧ last.length = types.length ∧ acc.length = i ∧
      acc ++ (srcGo (ins.drop i) i last).1 = (srcGo ins 0 (last0 types.length)).1 ∧ (srcGo (ins.drop i) i last).2 = (srcGo ins 0 (last0 types.length)).2)
    (fun o => o = (1245192, [intsD (srcGo ins 0 (last0 types.length)).2, rowsI (srcGo ins 0 (last0 types.length)).1]))
    ⟨last0 types.length, [], rfl, by simp [last0], rfl, rfl, rfl⟩ (by
    rintro i v hi ⟨last, acc, rfl, hl, ha, h1, h2⟩
    left
    rw [List.drop_eq_getElem_cons hi] at h1 h2
    simp only [srcGo] at h1 h2
    obtain ⟨k1, k2⟩ := hin _ (List.getElem_mem hi)
    have hm := at_map Ins.d ins i hi
    have hto : at_ (ins[i]).d.asA 1 = .int ins[i].to := rfl
    have ho := s_operands ins[i]
    rw [k1] at ho
    simp only [if_true] at ho
    have hle := operands_le ins[i]
    have kt := k2 _ (List.mem_cons_self ..)
    have t1 : ins[i].to < last.length := by omega
    have f1 : (acc.length : Int) + 1 ≤ 34359738368 := by omega
    refine ⟨[.int (i + 1 : Nat), intsD (last.set ins[i].to.toNat i), rowsI (acc ++ [(operands ins[i]).map fun r => gi last r.toNat])], ?_, last.set ins[i].to.toNat i, acc ++ [(operands ins[i]).map fun r => gi last r.toNat], rfl, by simpa using hl, by simp [ha], by simpa using h1, h2⟩
    simp [hi, hm, ho]
    generalize hL : loopL _ _ = L
    have hA := loop_to hL (operands ins[i]).length (fun k => [.int k, .list (((operands ins[i]).map fun r => D.int (gi last r.toNat)).take k)]) (1769482, [.bool false, .int (operands ins[i]).length, intsD ((operands ins[i]).map fun r => gi last r.toNat)]) (by simp) (by
      intro k hk
      have e := gi_at hk
      have hr := k2 _ (List.mem_cons_of_mem _ (List.getElem_mem hk))
      have hr2 : (operands ins[i])[k] < last.length := by omega
      have g := at_ints (l := last) (i := (operands ins[i])[k].toNat) (by omega)
      have ht := take_map_snoc (fun r => D.int (gi last r.toNat)) (operands ins[i]) k hk
      have hm : ((min k (operands ins[i]).length : Nat) : Int) + 1 ≤ 34359738368 := by omega
      simp [hk, e, hr.1, hr2, g, hm, wrap_nat (n := k) (by omega), ht]) (by simp [intsD, List.take_of_length_le]) (by simp)
    clear hL
    subst hA
    simp [rowsI, hto, kt.1, t1, f1, wrap_nat (n := i) (by omega), intsD, List.map_set]) (by
    rintro v ⟨last, acc, rfl, hl, ha, h1, h2⟩
    rw [List.drop_length] at h1 h2
    simp only [srcGo, List.append_nil] at h1 h2
    subst h1 h2
    exact ⟨_, by simp, by simp, rfl⟩)
  subst hP
  have hl := (srcGo_len ins 0 (last0 types.length)).2
  simp only [last0, List.length_replicate] at hl
  have o1 : out < (srcGo ins 0 (List.replicate types.length (-1))).2.length := by omega
  have g := at_ints (l := (srcGo ins 0 (List.replicate types.length (-1))).2) (i := out.toNat) (by omega)
  simp [srcOf, valueOf, lastOf, last0, hout.1, o1, g]
end Go.Proofs.YtlbckmllpciglaaDoor
