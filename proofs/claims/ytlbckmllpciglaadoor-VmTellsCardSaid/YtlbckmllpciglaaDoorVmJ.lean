/- The machine that runs programs, column by column. -/
import Derived.Test.YtlbckmllpciglaaDoorVmI
set_option linter.unusedVariables false
set_option linter.unusedSimpArgs false
set_option linter.all false
namespace Go.Proofs.YtlbckmllpciglaaDoor
open Go Sy

theorem fill_set {α : Type} (xs : List α) (z : α) (i : Nat) (hi : i < xs.length) : (xs.take i ++ List.replicate (xs.length - i) z).set i xs[i] = xs.take (i + 1) ++ List.replicate (xs.length - (i + 1)) z := by
  have e : xs.length - i = (xs.length - (i + 1)) + 1 := by omega
  rw [List.set_append_right _ _ (by simp; omega), List.length_take, Nat.min_eq_left (by omega), Nat.sub_self, e, List.replicate_succ, List.set_cons_zero, List.take_succ_eq_append_getElem hi, List.append_assoc]
  rfl

/-- A column is filled. -/
theorem s_column (l : List Delta) (regs fn : D) (vs : List Val) (hl : l.length ≤ 1048576) (hv : vs.length = l.length) (h : ∀ i (hi : i < vs.length), callD R fn [.int i] = some [(vs[i]).d]) :
    R 60 [.ptr (.agg [deltasD l, regs]), fn] = some [rowD vs] := by
  rw [r60, e60]
  have hf : (l.length : Int) ≤ 34359738368 := by omega
  simp [hf]
  generalize hL : loopL _ _ = L
  have hA := loop_to hL vs.length (fun i => [.int i, .list ((vs.map Val.d).take i ++ List.replicate ((vs.map Val.d).length - i) (.agg [.int 0, .int 0, .str []]))]) (458758, [rowD vs]) (by simp [hv]) (by
    intro i hi
    have hc := h i hi
    have hs := fill_set (vs.map Val.d) (.agg [.int 0, .int 0, .str []]) i (by simpa using hi)
    rw [List.getElem_map] at hs
    have h1 : i < l.length := by omega
    have h2 : ((min i vs.length : Nat) : Int) + ((vs.length - i : Nat) : Int) = vs.length := by omega
    simp only [List.length_map] at hs ⊢
    have h3 : (i : Int) < ((min i vs.length : Nat) : Int) + ((vs.length - i : Nat) : Int) := by omega
    simp [h1, hc, wrap_nat (n := i) (by omega), h3]
    simpa using hs) (by simp [hv, rowD, List.take_of_length_le]) (by simp)
  subst hA
  simp

theorem gv_map {α : Type} (f : α → Val) (l : List α) (i : Nat) (h : i < l.length) : gv (l.map f) i = f l[i] := by
  unfold gv
  rw [List.getD_eq_getElem?_getD, List.getElem?_map, List.getElem?_eq_getElem h]
  rfl
/-- The columns: those that are done have a value for each row. -/
def regsD (done : List Bool) (l : List Delta) (ρ : Delta → List Val) : List D := (List.range done.length).map fun r => if gb done r = true then rowD (l.map fun t => gv (ρ t) r) else .list []
theorem regsD_at {done : List Bool} {l : List Delta} {ρ : Delta → List Val} {r : Nat} (h : r < done.length) (hd : gb done r = true) : at_ (regsD done l ρ) r = rowD (l.map fun t => gv (ρ t) r) := by
  unfold regsD
  rw [at_map _ _ _ (by simpa using h)]
  simp [hd]
theorem regsD_len (done : List Bool) (l : List Delta) (ρ : Delta → List Val) : (regsD done l ρ).length = done.length := by simp [regsD]
/-- What an instruction yields in one row. -/
def insVal (x : Ins) (t : Delta) (ρ : List Val) : Val :=
  if arity x.op = 0 then srcVal x t else if arity x.op = 1 then oneVal x (gv ρ x.a.toNat) else if arity x.op = 2 then twoVal x (gv ρ x.a.toNat) (gv ρ x.b.toNat) else triVal (gv ρ x.a.toNat) (gv ρ x.b.toNat) (gv ρ x.c.toNat)

def kindsD (m : D) : List D := [.fn 43 [m] [], .fn 44 [m] [], .fn 45 [m] [], .fn 46 [m] []]

theorem ins_run (x : Ins) (l : List Delta) (done : List Bool) (ρ : Delta → List Val) (hl : l.length ≤ 1048576) (hr : ∀ r ∈ operands x, 0 ≤ r ∧ r.toNat < done.length ∧ gb done r.toNat = true)
    (h3 : x.op = 3 → ∀ t ∈ l, 0 ≤ x.n ∧ x.n < t.row.length) (hs : ∀ t ∈ l, ∀ r, (gv (ρ t) r).s.length ≤ 300) :
    callD R (at_ (kindsD (.ptr (.agg [deltasD l, .list (regsD done l ρ)]))) (operands x).length) [x.d] = some [rowD (l.map fun t => insVal x t (ρ t))] := by
  have hle := arity_le x.op
  have hol : (operands x).length = arity x.op := by unfold operands; simp; omega
  have ho := hr
  unfold operands at ho
  have xa : at_ x.d.asA 2 = .int x.a := rfl
  have xb : at_ x.d.asA 3 = .int x.b := rfl
  have xc : at_ x.d.asA 4 = .int x.c := rfl
  have hlen : (l.map fun t => insVal x t (ρ t)).length = l.length := by simp
  rw [hol]
  unfold insVal kindsD
  generalize hk : arity x.op = k at *
  have hk4 : k = 0 ∨ k = 1 ∨ k = 2 ∨ k = 3 := by omega
  rcases hk4 with rfl | rfl | rfl | rfl
  · simp only [at_zero, callD_fn, List.singleton_append, List.append_nil]
    rw [r43, e43]
    have h := s_column l (.list (regsD done l ρ)) (.fn 61 [] [.ptr x.d, .ptr (.ptr (.agg [deltasD l, .list (regsD done l ρ)]))]) (l.map fun t => srcVal x t) hl (by simp) (by
      intro i hi
      have hi' : i < l.length := by simpa using hi
      have := c_src x l (.list (regsD done l ρ)) i hi' (fun h => h3 h _ (List.getElem_mem hi'))
      simp [this])
    simp [h]
  · have a1 := ho x.a (by simp)
    have ra := regsD_at (l := l) (ρ := ρ) a1.2.1 a1.2.2
    have la : x.a < (regsD done l ρ).length := by rw [regsD_len]; omega
    simp only [at_one, callD_fn, List.singleton_append, List.append_nil]
    rw [r44, e44]
    have h := s_column l (.list (regsD done l ρ)) (.fn 65 [] [.ptr x.d, .ptr (rowD (l.map fun t => gv (ρ t) x.a.toNat))]) (l.map fun t => oneVal x (gv (ρ t) x.a.toNat)) hl (by simp) (by
      intro i hi
      have hi' : i < l.length := by simpa using hi
      have := c_one x (l.map fun t => gv (ρ t) x.a.toNat) i (by simpa using hi')
      rw [gv_map _ _ _ hi'] at this
      simp [this])
    simp [xa, a1.1, la, ra, h]
  · have a1 := ho x.a (by simp)
    have ra := regsD_at (l := l) (ρ := ρ) a1.2.1 a1.2.2
    have la : x.a < (regsD done l ρ).length := by rw [regsD_len]; omega
    have b1 := ho x.b (by simp)
    have rb := regsD_at (l := l) (ρ := ρ) b1.2.1 b1.2.2
    have lb : x.b < (regsD done l ρ).length := by rw [regsD_len]; omega
    simp only [at_two, callD_fn, List.singleton_append, List.append_nil]
    rw [r45, e45]
    have h := s_column l (.list (regsD done l ρ)) (.fn 66 [] [.ptr x.d, .ptr (rowD (l.map fun t => gv (ρ t) x.a.toNat)), .ptr (rowD (l.map fun t => gv (ρ t) x.b.toNat))]) (l.map fun t => twoVal x (gv (ρ t) x.a.toNat) (gv (ρ t) x.b.toNat)) hl (by simp) (by
      intro i hi
      have hi' : i < l.length := by simpa using hi
      have g1 := hs _ (List.getElem_mem hi') x.a.toNat
      have g2 := hs _ (List.getElem_mem hi') x.b.toNat
      have := c_two x (l.map fun t => gv (ρ t) x.a.toNat) (l.map fun t => gv (ρ t) x.b.toNat) i (by simpa using hi') (by simpa using hi') (by rw [gv_map _ _ _ hi', gv_map _ _ _ hi']; omega)
      rw [gv_map _ _ _ hi', gv_map _ _ _ hi'] at this
      simp [this])
    simp [xa, xb, a1.1, la, ra, b1.1, lb, rb, h]
  · have a1 := ho x.a (by simp)
    have ra := regsD_at (l := l) (ρ := ρ) a1.2.1 a1.2.2
    have la : x.a < (regsD done l ρ).length := by rw [regsD_len]; omega
    have b1 := ho x.b (by simp)
    have rb := regsD_at (l := l) (ρ := ρ) b1.2.1 b1.2.2
    have lb : x.b < (regsD done l ρ).length := by rw [regsD_len]; omega
    have c1 := ho x.c (by simp)
    have rc := regsD_at (l := l) (ρ := ρ) c1.2.1 c1.2.2
    have lc : x.c < (regsD done l ρ).length := by rw [regsD_len]; omega
    simp only [at_three, callD_fn, List.singleton_append, List.append_nil]
    rw [r46, e46]
    have h := s_column l (.list (regsD done l ρ)) (.fn 69 [] [.ptr (rowD (l.map fun t => gv (ρ t) x.a.toNat)), .ptr (rowD (l.map fun t => gv (ρ t) x.b.toNat)), .ptr (rowD (l.map fun t => gv (ρ t) x.c.toNat))]) (l.map fun t => triVal (gv (ρ t) x.a.toNat) (gv (ρ t) x.b.toNat) (gv (ρ t) x.c.toNat)) hl (by simp) (by
      intro i hi
      have hi' : i < l.length := by simpa using hi
      have := c_tri (l.map fun t => gv (ρ t) x.a.toNat) (l.map fun t => gv (ρ t) x.b.toNat) (l.map fun t => gv (ρ t) x.c.toNat) i (by simpa using hi') (by simpa using hi') (by simpa using hi')
      rw [gv_map _ _ _ hi', gv_map _ _ _ hi', gv_map _ _ _ hi'] at this
      simp [this])
    simp [xa, xb, xc, a1.1, la, ra, b1.1, lb, rb, c1.1, lc, rc, h]

theorem s_clone (xs : List D) (h : xs.length ≤ 34359738368) : R 32 [.list xs] = some [.list xs] := by
  rw [r32, e32]
  have hf : (xs.length : Int) ≤ 34359738368 := by omega
  by_cases h0 : xs = []
  · subst h0; simp
  · have : ((xs.length : Int) == 0) = false := by simp [h0]
    simp [this, hf, h0]

theorem verI_ok {cols ps : List Int} {done : List Bool} {x : Ins} (h : verI cols ps done x = 0) :
    formed x = true ∧ (∀ r ∈ x.to :: operands x, 0 ≤ r ∧ r.toNat < ps.length) ∧ (x.op = 3 → 0 ≤ x.n ∧ x.n.toNat < cols.length) ∧ (∀ r ∈ operands x, gb done r.toNat = true) := by
  unfold verI at h
  split at h
  · simp at h
  rename_i h1
  split at h
  · simp at h
  rename_i h2
  split at h
  · simp at h
  rename_i h3
  split at h
  · simp at h
  rename_i h4
  have out : ∀ n r, outside n r = false → 0 ≤ r ∧ r.toNat < n := by
    intro n r hr
    simp only [outside, Bool.or_eq_false_iff, decide_eq_false_iff_not] at hr
    omega
  simp only [Bool.not_eq_true] at h1 h2 h3 h4
  refine ⟨by simpa using h1, fun r hr => out _ _ (by simpa using List.any_eq_false.1 h2 r hr), fun hop => ?_, fun r hr => by simpa using List.any_eq_false.1 h4 r hr⟩
  simp only [hop, Bool.and_eq_false_iff] at h3
  rcases h3 with h3 | h3
  · simp at h3
  · exact out _ _ h3

def stepRow (t : Delta) (ρ : List Val) (x : Ins) : List Val := ρ.set x.to.toNat (insVal x t ρ)
def runRow (l : List Ins) (t : Delta) (ρ : List Val) : List Val := l.foldl (stepRow t) ρ
/-- The value of a program for a row. -/
def valRow (c : Prg) (t : Delta) : Val := gv (runRow c.ins t (List.replicate c.types.length default)) c.out.toNat

theorem gv_set (ρ : List Val) (i r : Nat) (v : Val) : gv (ρ.set i v) r = if i = r ∧ i < ρ.length then v else gv ρ r := by
  unfold gv
  rw [List.getD_eq_getElem?_getD, List.getD_eq_getElem?_getD, List.getElem?_set]
  by_cases h : i = r
  · subst h
    by_cases h2 : i < ρ.length
    · simp [h2]
    · simp [h2]
  · simp [h]
theorem gb_set (l : List Bool) (i r : Nat) (v : Bool) : gb (l.set i v) r = if i = r ∧ i < l.length then v else gb l r := by
  unfold gb
  rw [List.getD_eq_getElem?_getD, List.getD_eq_getElem?_getD, List.getElem?_set]
  by_cases h : i = r
  · subst h
    by_cases h2 : i < l.length
    · simp [h2]
    · simp [h2]
  · simp [h]
theorem regsD_set (done : List Bool) (l : List Delta) (ρ : Delta → List Val) (v : Delta → Val) (r : Nat) (hr : r < done.length) (hρ : ∀ t, (ρ t).length = done.length) :
    (regsD done l ρ).set r (rowD (l.map v)) = regsD (done.set r true) l fun t => (ρ t).set r (v t) := by
  apply List.ext_getElem
  · simp [regsD]
  · intro k h1 h2
    rw [List.getElem_set]
    simp only [regsD, List.getElem_map, List.getElem_range]
    rw [gb_set]
    by_cases hk : r = k
    · subst hk
      simp [hr, gv_set, hρ]
    · simp [hk, gv_set]

def textOK (ρ : List Val) : Prop := ∀ r, (gv ρ r).s.length ≤ 300
theorem insVal_text {x : Ins} {t : Delta} {ρ : List Val} (h : textOK ρ) (hx : x.s.length ≤ 300) (ht : ∀ v ∈ t.row, v.s.length ≤ 300) : (insVal x t ρ).s.length ≤ 300 := by
  have hI : ∀ n, (vInt n).s.length ≤ 300 := fun n => by simp [vInt]
  have hB : ∀ b, (vBool b).s.length ≤ 300 := fun n => by simp [vBool]
  have hN : ∀ op a b, (numOp op a b).s.length ≤ 300 := fun op a b => by unfold numOp; (repeat' split) <;> exact hI _
  have hg : ∀ k, (gv t.row k).s.length ≤ 300 := fun k => by
    unfold gv
    rw [List.getD_eq_getElem?_getD]
    cases hq : t.row[k]? with
    | none => simp; show ([] : Bs).length ≤ 300; simp
    | some v => exact ht v (List.mem_of_getElem? hq)
  have hT : ∀ s : Bs, s.length ≤ 300 → (vText s).s.length ≤ 300 := fun s hs => hs
  unfold insVal
  split
  · unfold srcVal
    (repeat' split) <;> first | exact hI _ | exact hB _ | exact hT _ hx | exact hg _
  split
  · unfold oneVal
    (repeat' split) <;> first | exact hI _ | exact hB _
  split
  · unfold twoVal
    (repeat' split) <;> first | exact hB _ | exact hN _ _ _ | exact hT _ (by simp [cat2]; omega)
  · unfold triVal
    split <;> exact h _

theorem rowTexts {cols : List Int} {t : Delta} (h : fitsRow cols t = true) : t.row.length = cols.length ∧ ∀ v ∈ t.row, v.s.length ≤ 300 := by
  unfold fitsRow rightRow at h
  simp only [Bool.and_eq_true, beq_iff_eq, decide_eq_true_eq] at h
  obtain ⟨⟨h1, h2, h3⟩, _⟩ := h
  refine ⟨by omega, fun v hv => ?_⟩
  have := List.all_eq_true.1 h3 v hv
  unfold rightV at this
  split at this
  · simp at this; simp [this]
  split at this
  · simp at this; omega
  · simp at this; simp [this]

theorem verGo_inl {cols ps : List Int} : ∀ {l : List Ins} {i : Nat} {done : List Bool} {p : Int × Int}, verGo cols ps l i done = .inl p → p.2 ≠ 0
  | [], i, done, p, h => by simp [verGo] at h
  | x :: l, i, done, p, h => by
    simp only [verGo] at h
    split at h
    · exact verGo_inl h
    · rename_i h0
      simp only [Sum.inl.injEq] at h
      rw [← h]
      exact h0
theorem s_run (c : Prg) (cols : List Int) (l : List Delta) (hv : verC c cols = (-1, 0)) (hf : fits cols l = true) (hl : l.length ≤ 1048576) : R 28 [c.d, deltasD l] = some [rowD (l.map (valRow c))] := by
  obtain ⟨ins, types, out⟩ := c
  unfold verC at hv
  split at hv
  · simp at hv
  rename_i hlen
  split at hv
  · simp at hv
  split at hv
  · rename_i p hp
    have := verGo_inl hp
    rw [hv] at this
    simp at this
  rename_i dF hgo
  split at hv
  · simp at hv
  rename_i hout
  split at hv
  · simp at hv
  rename_i hdone
  clear hv
  simp only at hlen hgo hout hdone
  have hrow : ∀ t ∈ l, fitsRow cols t = true := List.all_eq_true.1 hf
  rw [r28, e28]
  simp only [Prg.d, asA_agg', at_zero, at_one, at_two, asL_list', intsD_asL, List.length_map, asI_int']
  have hfit : (types.length : Int) ≤ 34359738368 := by omega
  simp [hfit]
  generalize hL : loopL _ _ = L
  have hz : ∀ r, gb (List.replicate types.length false) r = false := by
    intro r
    unfold gb
    rw [List.getD_eq_getElem?_getD, List.getElem?_replicate]
    split <;> rfl
  obtain ⟨o, rfl, hP⟩ := loop_list hL ins.length
    (fun i v => ∃ (done : List Bool) (ρ : Delta → List Val), v = [.int i, .list (regsD done l ρ)] ∧ done.length = types.length ∧ (∀ t, (ρ t).length = types.length) ∧ (∀ t ∈ l, textOK (ρ t)) ∧
      verGo cols types (ins.drop i) i done = .inr dF ∧ ∀ t, runRow (ins.drop i) t (ρ t) = runRow ins t (List.replicate types.length default))
    (fun o => o = (589830, [.list (regsD dF l fun t => runRow ins t (List.replicate types.length default))]))
    ⟨List.replicate types.length false, fun _ => List.replicate types.length default, by
      simp only [List.cons.injEq, D.list.injEq, and_true]
      refine ⟨rfl, ?_⟩
      apply List.ext_getElem
      · simp [regsD]
      · intro k h1 h2
        simp [regsD, hz], by simp, by simp, fun t _ r => by
        unfold gv
        rw [List.getD_eq_getElem?_getD, List.getElem?_replicate]
        split <;> (show ([] : Bs).length ≤ 300; simp), hgo, fun t => rfl⟩ (by
    rintro i v hi ⟨done, ρ, rfl, hd, hρ, ht, hg, hrun⟩
    left
    rw [List.drop_eq_getElem_cons hi] at hg hrun
    simp only [verGo] at hg
    split at hg
    · rename_i h0
      obtain ⟨k1, k2, k3, k4⟩ := verI_ok h0
      have hm := at_map Ins.d ins i hi
      have hto : at_ (ins[i]).d.asA 1 = .int ins[i].to := rfl
      have ho := s_operands ins[i]
      rw [(formed_op k1).1] at ho
      simp only [if_true] at ho
      have hle := operands_le ins[i]
      have hin := ins_run ins[i] l done ρ hl (fun r hr => ⟨(k2 r (List.mem_cons_of_mem _ hr)).1, by have := (k2 r (List.mem_cons_of_mem _ hr)).2; omega, k4 r hr⟩)
        (fun hop t htl => by
          obtain ⟨g1, g2⟩ := k3 hop
          have := (rowTexts (hrow t htl)).1
          omega) (fun t htl r => ht t htl r)
      unfold kindsD at hin
      have hkt := k2 ins[i].to (List.mem_cons_self ..)
      have t1 : ins[i].to < (regsD done l ρ).length := by rw [regsD_len]; omega
      have t2 : ((operands ins[i]).length : Int) < 4 := by omega
      refine ⟨[.int (i + 1 : Nat), .list ((regsD done l ρ).set ins[i].to.toNat (rowD (l.map fun t => insVal ins[i] t (ρ t))))], ?_, done.set ins[i].to.toNat true, fun t => (ρ t).set ins[i].to.toNat (insVal ins[i] t (ρ t)), ?_, by simpa using hd, by simpa using hρ, ?_, hg, hrun⟩
      · simp [hi, hm, ho, t2, hin, hto, hkt.1, t1, wrap_nat (n := i) (by omega)]
      · rw [regsD_set done l ρ _ _ (by omega) (fun t => by rw [hρ, hd])]
      · intro t htl r
        rw [gv_set]
        split
        · exact insVal_text (ht t htl) (by have := (formed_op k1).2.2.1; omega) (rowTexts (hrow t htl)).2
        · exact ht t htl r
    · simp at hg) (by
    rintro v ⟨done, ρ, rfl, hd, hρ, ht, hg, hrun⟩
    rw [List.drop_length] at hg hrun
    simp only [verGo, Sum.inr.injEq] at hg
    subst hg
    have e : ρ = fun t => runRow ins t (List.replicate types.length default) := by
      funext t
      rw [← hrun t]
      rfl
    exact ⟨_, by simp; rfl, by simp, by rw [e]⟩)
  subst hP
  have hdl := verGo_len hgo
  simp at hdl
  simp only [Bool.not_eq_true] at hout hdone
  simp only [outside, Bool.or_eq_false_iff, decide_eq_false_iff_not] at hout
  have o1 : 0 ≤ out := by omega
  have o2 : out < (regsD dF l fun t => runRow ins t (List.replicate types.length default)).length := by rw [regsD_len]; omega
  have o3 := regsD_at (done := dF) (l := l) (ρ := fun t => runRow ins t (List.replicate types.length default)) (r := out.toNat) (by omega) (by simpa using hdone)
  have o4 := s_clone ((l.map fun t => gv (runRow ins t (List.replicate types.length default)) out.toNat).map Val.d) (by simp; omega)
  simp [o1, o2, o3, rowD]
  rw [List.map_map] at o4
  rw [o4]
  simp [valRow]
end Go.Proofs.YtlbckmllpciglaaDoor
