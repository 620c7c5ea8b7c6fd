/- Compact changes no value. -/
import Derived.Test.YtlbckmllpciglaaDoorVmQ
set_option linter.unusedVariables false
set_option linter.unusedSimpArgs false
set_option linter.all false
namespace Go.Proofs.YtlbckmllpciglaaDoor
open Go Sy

theorem setTo_facts (i : Nat) : ∀ (s : List Int) (e : List Int), (∀ k, gi e k ≤ i) → (∀ k, gi e k ≤ gi (setTo e s i) k ∧ gi (setTo e s i) k ≤ i) ∧ ∀ k ∈ s, k.toNat < e.length → gi (setTo e s i) k.toNat = i
  | [], e, h => ⟨fun k => ⟨Int.le_refl _, h k⟩, by simp⟩
  | x :: s, e, h => by
    have hset : ∀ k, gi e k ≤ gi (e.set x.toNat i) k ∧ gi (e.set x.toNat i) k ≤ i := by
      intro k
      have := h k
      rw [gi_set]
      split <;> omega
    obtain ⟨g1, g2⟩ := setTo_facts i s (e.set x.toNat i) (fun k => (hset k).2)
    have e0 : setTo e (x :: s) i = setTo (e.set x.toNat i) s i := rfl
    rw [e0]
    refine ⟨fun k => ?_, fun k hk hl => ?_⟩
    · have := g1 k
      have := hset k
      omega
    · rcases List.mem_cons.1 hk with rfl | hk
      · have := g1 k.toNat
        rw [gi_set, if_pos ⟨rfl, hl⟩] at this
        omega
      · exact g2 k hk (by simpa using hl)
theorem endGo_facts (n : Nat) : ∀ (ss : List (List Int)) (i : Nat) (e : List Int), e.length = n → (∀ k, gi e k ≤ i) →
    (∀ k, gi e k ≤ gi (endGo ss i e) k) ∧ (∀ j, ∀ k ∈ ss.getD j [], k.toNat < n → ((i + j : Nat) : Int) ≤ gi (endGo ss i e) k.toNat) 
  | [], i, e, _, h => ⟨fun k => Int.le_refl _, by simp⟩
  | s :: ss, i, e, hl, h => by
    have hset : ∀ k, gi e k ≤ gi (e.set i i) k ∧ gi (e.set i i) k ≤ i := by
      intro k
      have := h k
      rw [gi_set]
      split <;> omega
    obtain ⟨g1, g2⟩ := setTo_facts i s (e.set i i) (fun k => (hset k).2)
    obtain ⟨q1, q2⟩ := endGo_facts n ss (i + 1) (setTo (e.set i i) s i) (by rw [setTo_len]; simpa using hl) (fun k => by
      have := (g1 k).2
      omega)
    rw [endGo]
    refine ⟨fun k => ?_, fun j k hk hn => ?_⟩
    · have := q1 k
      have := (g1 k).1
      have := (hset k).1
      omega
    · cases j with
      | zero =>
        rw [List.getD_cons_zero] at hk
        have := g2 k hk (by simp; omega)
        have := q1 k.toNat
        omega
      | succ j =>
        rw [List.getD_cons_succ] at hk
        have := q2 j k hk hn
        omega
theorem gi_zero (n k : Nat) : gi (List.replicate n 0) k = 0 := by
  unfold gi
  rw [List.getD_eq_getElem?_getD, List.getElem?_replicate]
  split <;> rfl
theorem endOf_facts {c : Prg} {cols : List Int} (h : Okay c cols) : (∀ j, ∀ k ∈ (srcOf c).getD j [], (j : Int) ≤ gi (endOf c) k.toNat) ∧ gi (endOf c) (valueOf c).toNat = c.ins.length := by
  obtain ⟨hs, hv, _⟩ := okay_src h
  have hsl : (srcOf c).length = c.ins.length := (srcGo_len ..).1
  obtain ⟨g1, g2⟩ := endGo_facts c.ins.length (srcOf c) 0 (List.replicate c.ins.length 0) (by simp) (by intro k; rw [gi_zero]; exact Int.le_refl _)
  unfold endOf
  refine ⟨fun j k hk => ?_, ?_⟩
  · have hj : j < c.ins.length := by
      apply Decidable.byContradiction
      intro hj
      rw [List.getD_eq_getElem?_getD, List.getElem?_eq_none (by omega)] at hk
      simp at hk
    have := hs j k hk
    rw [gi_set]
    split
    · omega
    · have := g2 j k hk (by omega)
      omega
  · rw [gi_set, if_pos ⟨rfl, by rw [endGo_len]; simpa using hv.2⟩]

theorem cGo_types (en ps : List Int) : ∀ (l : List Ins) (ss : List (List Int)) (i : Nat) (holds place ts : List Int), ∃ suf, (cGo en ps l ss i holds place ts).2.1 = ts ++ suf ∧ suf.length ≤ l.length ∧
    (ss.length = l.length → (cGo en ps l ss i holds place ts).1.length = l.length) ∧ (cGo en ps l ss i holds place ts).2.2.length = place.length ∧
    ((∀ x ∈ l, inside ps.length x) → ps.all kindOK = true → suf.all kindOK = true)
  | [], ss, i, holds, place, ts => ⟨[], by simp [cGo]⟩
  | x :: l, [], i, holds, place, ts => ⟨[], by simp [cGo]⟩
  | x :: l, s :: ss, i, holds, place, ts => by
    have h := cGo_types en ps l ss (i + 1) (putH holds (regOf en i (gi ps x.to.toNat) holds ts) i) (place.set i (regOf en i (gi ps x.to.toNat) holds ts)) (putT ts (regOf en i (gi ps x.to.toNat) holds ts) (gi ps x.to.toNat) holds.length)
    rw [cGo]
    generalize regOf en i (gi ps x.to.toNat) holds ts = K at *
    obtain ⟨suf, h1, h2, h3, h4, h5⟩ := h
    simp only
    by_cases hk : K = holds.length
    · refine ⟨gi ps x.to.toNat :: suf, by rw [h1, putT, if_pos hk]; simp, by simp; omega, fun h => by simp at h ⊢; exact h3 h, by simpa using h4, fun hi hk => ?_⟩
      have hx := (hi x (List.mem_cons_self ..)).2 x.to (List.mem_cons_self ..)
      rw [List.all_cons, h5 (fun y hy => hi y (List.mem_cons_of_mem _ hy)) hk, Bool.and_true, gi_at hx.2]
      exact List.all_eq_true.1 hk _ (List.getElem_mem hx.2)
    · exact ⟨suf, by rw [h1, putT, if_neg hk], by simp; omega, fun h => by simp at h ⊢; exact h3 h, by simpa using h4, fun hi hk => h5 (fun y hy => hi y (List.mem_cons_of_mem _ hy)) hk⟩

theorem mk_operands {x : Ins} {args : List Int} {k : Nat} (h : args.length = arity x.op) : operands (mkIns x args k) = args := by
  have hle := arity_le x.op
  unfold operands mkIns
  simp only
  rw [← h]
  match args, h with
  | [], _ => rfl
  | [a], _ => rfl
  | [a, b], _ => rfl
  | [a, b, c], _ => rfl
  | _ :: _ :: _ :: _ :: _, h => simp at h; omega
theorem mk_formed {x : Ins} {args : List Int} {k : Nat} (h : args.length = arity x.op) (hf : formed x = true) : formed (mkIns x args k) = true := by
  have hle := arity_le x.op
  simp only [formed, Bool.and_eq_true, beq_iff_eq] at hf ⊢
  obtain ⟨⟨⟨h1, h2⟩, h3⟩, h4⟩ := hf
  refine ⟨⟨⟨h1, ?_⟩, h3⟩, h4⟩
  have hn : (bare x).n = x.n := by rw [h2]
  have hs : (bare x).s = x.s := by rw [h2]
  have eb : bare (mkIns x args k) = ⟨x.op, k, if 1 ≤ arity x.op then gi args 0 else 0, if 2 ≤ arity x.op then gi args 1 else 0, if 3 ≤ arity x.op then gi args 2 else 0, (bare x).n, (bare x).s⟩ := rfl
  rw [eb, hn, hs]
  unfold mkIns
  have hz : ∀ j, arity x.op ≤ j → gi args j = 0 := by
    intro j hj
    unfold gi
    rw [List.getD_eq_getElem?_getD, List.getElem?_eq_none (by omega)]
    rfl
  congr 1
  · split
    · rfl
    · exact (hz 0 (by omega)).symm
  · split
    · rfl
    · exact (hz 1 (by omega)).symm
  · split
    · rfl
    · exact (hz 2 (by omega)).symm
theorem operands_len (x : Ins) : (operands x).length = arity x.op := by
  have hle := arity_le x.op
  unfold operands
  rw [List.length_take]
  show min (arity x.op) 3 = _
  omega
/-- An instruction with other registers of the same types. -/
theorem mk_ver {cols ps F : List Int} {done done' : List Bool} {x : Ins} {f : Int → Int} {K : Nat} (h : verI cols ps done x = 0) (hf : ∀ r ∈ operands x, 0 ≤ f r ∧ (f r).toNat < F.length ∧ gb done' (f r).toNat = true ∧ gi F (f r).toNat = gi ps r.toNat)
    (hK : K < F.length) (hT : gi F K = gi ps x.to.toNat) : verI cols F done' (mkIns x ((operands x).map f) K) = 0 := by
  obtain ⟨k1, _, k3, _⟩ := verI_ok h
  have hal : ((operands x).map f).length = arity x.op := by rw [List.length_map, operands_len]
  have ho := mk_operands (k := K) hal
  have hform := mk_formed (k := K) hal k1
  have hin : ∀ n r, 0 ≤ r → r.toNat < n → outside n r = false := by
    intro n r h1 h2
    simp only [outside, Bool.or_eq_false_iff, decide_eq_false_iff_not]
    omega
  have e1 : ((mkIns x ((operands x).map f) K).to :: operands (mkIns x ((operands x).map f) K)).any (outside F.length) = false := by
    rw [ho, List.any_eq_false]
    intro r hr
    rcases List.mem_cons.1 hr with rfl | hr
    · rw [hin _ _ (by simp [mkIns]) (by simpa [mkIns] using hK)]
      simp
    · obtain ⟨r', hr', rfl⟩ := List.mem_map.1 hr
      obtain ⟨a1, a2, _⟩ := hf r' hr'
      rw [hin _ _ a1 a2]
      simp
  have e2 : (((mkIns x ((operands x).map f) K).op == 3) && outside cols.length (mkIns x ((operands x).map f) K).n) = false := by
    show ((x.op == 3) && outside cols.length x.n) = false
    by_cases hop : x.op = 3
    · obtain ⟨a1, a2⟩ := k3 hop
      rw [hin _ _ a1 a2]
      simp
    · simp [hop]
  have e3 : (operands (mkIns x ((operands x).map f) K)).any (fun r => !gb done' r.toNat) = false := by
    rw [ho, List.any_eq_false]
    intro r hr
    obtain ⟨r', hr', rfl⟩ := List.mem_map.1 hr
    simp [(hf r' hr').2.2.1]
  have e4 : insTy cols F (mkIns x ((operands x).map f) K) ((operands x).map f) = insTy cols ps x (operands x) := by
    have q1 : (mkIns x ((operands x).map f) K).op = x.op := rfl
    have q2 : (mkIns x ((operands x).map f) K).n = x.n := rfl
    have q3 : (mkIns x ((operands x).map f) K).s = x.s := rfl
    have q4 : leafTy cols F x.op x.n x.s = leafTy cols ps x.op x.n x.s := by
      have h4 : x.op ≠ 4 := by
        intro h4
        have := (formed_op k1).1
        simp [isOp, h4] at this
      unfold leafTy
      simp [h4]
    have q5 : ((operands x).map f).map (fun r => gi F r.toNat) = (operands x).map fun r => gi ps r.toNat := by
      rw [List.map_map]
      exact List.map_congr_left fun r hr => (hf r hr).2.2.2
    unfold insTy
    rw [q1, q2, q3, q4, q5]
    simp only [List.map_eq_nil_iff]
  unfold verI at h ⊢
  rw [if_neg (by rw [hform]; simp), if_neg (by rw [e1]; simp), if_neg (by rw [e2]; simp), if_neg (by rw [e3]; simp), ho, e4]
  have e5 : gi F (mkIns x ((operands x).map f) K).to.toNat = gi ps x.to.toNat := by
    show gi F ((K : Int)).toNat = _
    rw [Int.toNat_natCast, hT]
  rw [e5]
  split at h
  · simp at h
  split at h
  · simp at h
  split at h
  · simp at h
  split at h
  · simp at h
  exact h
theorem mk_val {x : Ins} {f : Int → Int} {K : Nat} {t : Delta} {ρ ρ' : List Val} (h : ∀ r ∈ operands x, gv ρ' (f r).toNat = gv ρ r.toNat) : insVal (mkIns x ((operands x).map f) K) t ρ' = insVal x t ρ := by
  have hle := arity_le x.op
  have hs : srcVal (mkIns x ((operands x).map f) K) t = srcVal x t := rfl
  have h1 : ∀ v, oneVal (mkIns x ((operands x).map f) K) v = oneVal x v := fun _ => rfl
  have h2 : ∀ v u, twoVal (mkIns x ((operands x).map f) K) v u = twoVal x v u := fun _ _ => rfl
  unfold insVal
  rw [hs]
  simp only [h1, h2]
  unfold operands at h ⊢
  have e : arity (mkIns x (List.map f (List.take (arity x.op) [x.a, x.b, x.c])) K).op = arity x.op := rfl
  rw [e]
  generalize arity x.op = k at *
  have hk : k = 0 ∨ k = 1 ∨ k = 2 ∨ k = 3 := by omega
  rcases hk with rfl | rfl | rfl | rfl
  · simp
  · simp [mkIns, gi, h x.a (by simp)]
  · simp [mkIns, gi, h x.a (by simp), h x.b (by simp)]
  · simp [mkIns, gi, h x.a (by simp), h x.b (by simp), h x.c (by simp)]
end Go.Proofs.YtlbckmllpciglaaDoor
