/- The reference for programs: what lies in registers is right, and of its type. -/
import Derived.Test.YtlbckmllpciglaaDoorVmXd
set_option linter.unusedVariables false
set_option linter.unusedSimpArgs false
set_option linter.all false
namespace Go.Proofs.YtlbckmllpciglaaDoor
open Go Sy

theorem right_vInt (n : Int) : rightV (vInt n) = true := by simp [rightV, vInt]
theorem right_vBool (b : Bool) : rightV (vBool b) = true := by cases b <;> simp [rightV, vBool]
theorem right_vText {s : Bs} (h : s.length ≤ 200) : rightV (vText s) = true := by
  have : decide ((s.length : Int) ≤ 200) = true := by rw [decide_eq_true_eq]; omega
  show (if (1 : Int) = 0 then s == [] else if (1 : Int) = 1 then ((0 : Int) == 0) && decide ((s.length : Int) ≤ 200) else _) = true
  rw [if_neg (by omega), if_pos rfl, this]
  rfl
theorem numOp_int (op a b : Int) : ∃ m, numOp op a b = vInt m := by
  unfold numOp
  (repeat' split) <;> exact ⟨_, rfl⟩
theorem norm_true {p : Int × Bool} {T : Int} (h : norm p = (T, true)) : p.2 = true ∧ p.1 = T := by
  unfold norm at h
  split at h
  · rename_i hb
    simp only [Prod.mk.injEq, and_true] at h
    exact ⟨hb, h⟩
  · simp at h
theorem evA_right {cols ps : List Int} {x : Ins} {time T : Int} {row vs : List Val} (hop : isOp x.op = true) (hs : x.s.length ≤ 200) (hl : vs.length = arity x.op) (hr : ∀ v ∈ vs, rightV v = true)
    (hty : norm (if vs = [] then leafTy cols ps x.op x.n x.s else opTy x.op x.n (vs.map (·.kind))) = (T, true)) (hc : x.op = 3 → rightV (gv row x.n.toNat) = true ∧ (gv row x.n.toNat).kind = gi cols x.n.toNat) :
    (rightV (evA x time row vs) = true ∧ (evA x time row vs).kind = T) ∧ (x.op = 15 ∨ x.op = 16 → (gv vs 0).kind = (gv vs 1).kind) := by
  obtain ⟨t1, t2⟩ := norm_true hty
  have hop' := hop
  simp only [isOp, decide_eq_true_eq] at hop'
  have one : vs.length = 1 → ∃ t, vs = [t] := by
    intro h
    match vs, h with
    | [t], _ => exact ⟨t, rfl⟩
  have two : vs.length = 2 → ∃ t u, vs = [t, u] := by
    intro h
    match vs, h with
    | [t, u], _ => exact ⟨t, u, rfl⟩
  have three : vs.length = 3 → ∃ t u v, vs = [t, u, v] := by
    intro h
    match vs, h with
    | [t, u, v], _ => exact ⟨t, u, v, rfl⟩
  clear hty
  obtain ⟨op, to, a, b, c, n, s⟩ := x
  simp only at *
  have nil : arity op = 0 → vs = [] := fun h => List.eq_nil_of_length_eq_zero (by rw [hl, h])
  by_cases h0 : op = 0
  · subst h0
    have := nil rfl
    subst this
    simp [leafTy] at t1 t2
    subst t2
    exact ⟨⟨by simp [evA, arity, srcV, right_vInt], by simp [evA, arity, srcV, vInt]⟩, by omega⟩
  by_cases h1 : op = 1
  · subst h1
    have := nil rfl
    subst this
    simp [leafTy] at t1 t2
    subst t2
    exact ⟨⟨by simp [evA, arity, srcV, right_vText hs], by simp [evA, arity, srcV, vText]⟩, by omega⟩
  by_cases h2 : op = 2
  · subst h2
    have := nil rfl
    subst this
    simp [leafTy] at t1 t2
    subst t2
    exact ⟨⟨by simp [evA, arity, srcV, right_vBool], by simp [evA, arity, srcV, vBool]⟩, by omega⟩
  by_cases h3 : op = 3
  · subst h3
    have := nil rfl
    subst this
    obtain ⟨c1, c2⟩ := hc rfl
    simp [leafTy] at t1 t2
    have : gi cols n.toNat = T := by
      rw [← t2]
      unfold pick at t1 ⊢
      split
      · rfl
      · rename_i h
        rw [if_neg h] at t1
        simp at t1
    exact ⟨⟨by simp [evA, arity, srcV, c1], by simp [evA, arity, srcV, c2, this]⟩, by omega⟩
  by_cases h5 : op = 5
  · subst h5
    have := nil rfl
    subst this
    simp [leafTy] at t1 t2
    subst t2
    exact ⟨⟨by simp [evA, arity, srcV, right_vInt], by simp [evA, arity, srcV, vInt]⟩, by omega⟩
  by_cases h6 : op = 6
  · subst h6
    obtain ⟨t, rfl⟩ := one hl
    unfold opTy at t1 t2
    by_cases hn : n = 0
    case neg => simp [hn] at t1
    simp [hn] at t1 t2
    subst t2
    exact ⟨⟨by simp [evA, arity, oneVal, right_vBool], by simp [evA, arity, oneVal, vBool]⟩, by omega⟩
  by_cases h7 : op = 7
  · subst h7
    obtain ⟨t, rfl⟩ := one hl
    unfold opTy at t1 t2
    by_cases hn : n = 0
    case neg => simp [hn] at t1
    simp [hn] at t1 t2
    subst t2
    exact ⟨⟨by simp [evA, arity, oneVal, right_vInt], by simp [evA, arity, oneVal, vInt]⟩, by omega⟩
  by_cases h20 : op = 20
  · subst h20
    obtain ⟨t, rfl⟩ := one hl
    unfold opTy at t1 t2
    by_cases hn : n = 0
    case neg => simp [hn] at t1
    simp [hn] at t1 t2
    subst t2
    exact ⟨⟨by simp [evA, arity, oneVal, right_vInt], by simp [evA, arity, oneVal, vInt]⟩, by omega⟩
  by_cases h21 : op = 21
  · subst h21
    obtain ⟨t, u, v, rfl⟩ := three hl
    unfold opTy at t1 t2
    by_cases hn : n = 0
    case neg => simp [hn] at t1
    simp [hn, gi] at t1 t2
    have e : evA ⟨21, to, a, b, c, n, s⟩ time row [t, u, v] = if t.n = 1 then u else v := rfl
    rw [e]
    refine ⟨?_, by omega⟩
    split
    · exact ⟨hr u (by simp), by rw [t1.2, t2]⟩
    · exact ⟨hr v (by simp), t2⟩
  have ha : arity op = 2 := by
    unfold arity
    simp [h0, h1, h2, h3, h5, h6, h7, h20, h21]
  rw [ha] at hl
  obtain ⟨t, u, rfl⟩ := two hl
  have g0 : gv [t, u] 0 = t := rfl
  have g1 : gv [t, u] 1 = u := rfl
  unfold opTy at t1 t2
  by_cases hn : n = 0
  case neg => simp [hn] at t1
  unfold evA
  simp only [ha, g0, g1]
  unfold twoVal
  by_cases o12 : op = 8 ∨ op = 9 ∨ op = 10 ∨ op = 11 ∨ op = 12
  · have e1 : ¬ op = 13 := by omega
    have e2 : ¬ op = 14 := by omega
    have e3 : ¬ op = 15 := by omega
    have e4 : ¬ op = 16 := by omega
    have e5 : ¬ op = 17 := by omega
    have e6 : ¬ op = 18 := by omega
    have e7 : ¬ op = 19 := by omega
    obtain ⟨m, hm⟩ := numOp_int op t.n u.n
    simp [hn, h6, h7, h20, o12] at t1 t2
    simp only [e1, e2, e3, e4, e5, e6, e7, if_false, hm, or_self, false_implies, and_true]
    rw [← t2]
    exact ⟨right_vInt m, rfl⟩
  by_cases o16 : op = 13 ∨ op = 14 ∨ op = 15 ∨ op = 16
  · simp [hn, h6, h7, h20, o12, o16, allOf, gi] at t1 t2
    rw [← t2]
    refine ⟨?_, fun _ => t1.symm⟩
    rcases o16 with rfl | rfl | rfl | rfl <;> simp only [Int.reduceEq, if_true, if_false] <;> exact ⟨right_vBool _, rfl⟩
  by_cases o18 : op = 17 ∨ op = 18
  · simp [hn, h6, h7, h20, o12, o16, o18, allOf, gi] at t1 t2
    rw [← t2]
    refine ⟨?_, by omega⟩
    rcases o18 with rfl | rfl <;> simp only [Int.reduceEq, if_true, if_false] <;> exact ⟨right_vBool _, rfl⟩
  have o19 : op = 19 := by omega
  subst o19
  simp [hn, allOf, gi] at t1 t2
  rw [← t2]
  refine ⟨?_, by omega⟩
  simp only [Int.reduceEq, if_true, if_false]
  exact ⟨right_vText (by simp [cat2]; omega), rfl⟩

/-- What lies in registers that are done. -/
def regOK (ps : List Int) (done : List Bool) (ρ : List Val) : Prop := ∀ r, gb done r = true → rightV (gv ρ r) = true ∧ (gv ρ r).kind = gi ps r
theorem verI_ty {cols ps : List Int} {done : List Bool} {x : Ins} (h : verI cols ps done x = 0) : norm (insTy cols ps x (operands x)) = (gi ps x.to.toNat, true) := by
  unfold verI at h
  split at h
  · simp at h
  split at h
  · simp at h
  split at h
  · simp at h
  split at h
  · simp at h
  split at h
  · simp at h
  rename_i h5
  simp only [Bool.not_eq_true, Bool.or_eq_false_iff, Bool.not_eq_false', beq_iff_eq] at h5
  obtain ⟨a, b⟩ := h5
  exact Prod.ext b a
theorem row_at {cols : List Int} {t : Delta} (h : fitsRow cols t = true) {i : Nat} (hi : i < cols.length) : rightV (gv t.row i) = true ∧ (gv t.row i).kind = gi cols i := by
  have hl := (rowTexts h).1
  unfold fitsRow rightRow kindsAre at h
  simp only [Bool.and_eq_true, beq_iff_eq, decide_eq_true_eq] at h
  obtain ⟨⟨_, _, h3⟩, h4⟩ := h
  refine ⟨?_, ?_⟩
  · have hlt : i < t.row.length := by omega
    have e : gv t.row i = t.row[i] := by
      unfold gv
      rw [List.getD_eq_getElem?_getD, List.getElem?_eq_getElem hlt]
      rfl
    rw [e]
    exact List.all_eq_true.1 h3 _ (List.getElem_mem hlt)
  · have := List.all_eq_true.1 h4 i (by simpa using hi)
    simpa using this
theorem insVal_right {cols ps : List Int} {done : List Bool} {x : Ins} {t : Delta} {ρ : List Val} (h : verI cols ps done x = 0) (hρ : regOK ps done ρ) (ht : fitsRow cols t = true) :
    (rightV (insVal x t ρ) = true ∧ (insVal x t ρ).kind = gi ps x.to.toNat) ∧ (x.op = 15 ∨ x.op = 16 → (gv ((operands x).map fun r => gv ρ r.toNat) 0).kind = (gv ((operands x).map fun r => gv ρ r.toNat) 1).kind) := by
  obtain ⟨k1, _, k3, k4⟩ := verI_ok h
  obtain ⟨hop, _, hs, _⟩ := formed_op k1
  have hty := verI_ty h
  have hlo : (operands x).length = arity x.op := by
    have := arity_le x.op
    unfold operands
    simp
    omega
  rw [← evA_insVal]
  refine evA_right (cols := cols) (ps := ps) hop hs (by rw [List.length_map, hlo]) ?_ ?_ ?_
  · intro v hv
    obtain ⟨r, hr, rfl⟩ := List.mem_map.1 hv
    exact (hρ _ (k4 r hr)).1
  · unfold insTy at hty
    have e : ((operands x).map fun r => gv ρ r.toNat).map (·.kind) = (operands x).map fun r => gi ps r.toNat := by
      rw [List.map_map]
      exact List.map_congr_left fun r hr => (hρ _ (k4 r hr)).2
    rw [e]
    simp only [List.map_eq_nil_iff]
    exact hty
  · intro h3
    exact row_at ht (k3 h3).2
end Go.Proofs.YtlbckmllpciglaaDoor
