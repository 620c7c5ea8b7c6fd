/- Trim: what it yields, and that it changes no value. -/
import Derived.Test.YtlbckmllpciglaaDoorVmN
set_option linter.unusedVariables false
set_option linter.unusedSimpArgs false
set_option linter.all false
namespace Go.Proofs.YtlbckmllpciglaaDoor
open Go Sy

theorem gb_none (n r : Nat) : gb (List.replicate n false) r = false := by
  unfold gb
  rw [List.getD_eq_getElem?_getD, List.getElem?_replicate]
  split <;> rfl
/-- What is said of the sources of a program that is in order. -/
theorem okay_src {c : Prg} {cols : List Int} (h : Okay c cols) :
    (∀ j, ∀ k ∈ (srcOf c).getD j [], 0 ≤ k ∧ k.toNat < j) ∧ (0 ≤ valueOf c ∧ (valueOf c).toNat < c.ins.length) ∧ ∀ x ∈ c.ins, inside c.types.length x := by
  obtain ⟨d, h1, h2⟩ := h.ins
  obtain ⟨g1, g2⟩ := src_facts (last := last0 c.types.length) h1 (by simp [last0]) (by simp) (by intro r hr; rw [gb_none] at hr; simp at hr)
  refine ⟨fun j k hk => ?_, ?_, verGo_inside h1⟩
  · have := g1 j k hk
    omega
  · have := g2 _ h2
    unfold valueOf lastOf
    omega

def keep (need : List Bool) : Nat → List Ins → List Ins
  | _, [] => []
  | i, x :: l => if gb need i = true then x :: keep need (i + 1) l else keep need (i + 1) l
def trimC (c : Prg) : Prg := ⟨keep (needOf c) 0 c.ins, c.types, c.out⟩
theorem keep_len (need : List Bool) : ∀ (l : List Ins) (i : Nat), (keep need i l).length ≤ l.length
  | [], _ => by simp [keep]
  | x :: l, i => by
    have := keep_len need l (i + 1)
    unfold keep
    split <;> simp <;> omega
theorem needOf_len (c : Prg) : (needOf c).length = c.ins.length := by unfold needOf; rw [neGo_len]; simp

theorem s_cloneI (xs : List D) (h : xs.length ≤ 34359738368) : R 33 [.list xs] = some [.list xs] := by
  rw [r33, e33]
  have hf : (xs.length : Int) ≤ 34359738368 := by omega
  by_cases h0 : xs = []
  · subst h0; simp
  · have : ((xs.length : Int) == 0) = false := by simp [h0]
    simp [this, hf, h0]
theorem s_trim (c : Prg) (cols : List Int) (h : Okay c cols) : R 19 [c.d] = some [(trimC c).d] := by
  rw [r19, e19]
  obtain ⟨hs, hv, hin⟩ := okay_src h
  have hlen := h.len
  have h0 := s_needed c hlen hin h.out hs hv
  have k0 : at_ c.d.asA 0 = .list (c.ins.map Ins.d) := rfl
  have k1 : at_ c.d.asA 1 = intsD c.types := rfl
  have k2 : at_ c.d.asA 2 = .int c.out := rfl
  have hc := s_cloneI (c.types.map D.int) (by simp; omega)
  have nl := needOf_len c
  simp [h0, k0, k1, k2, intsD, hc]
  generalize hL : loopL _ _ = L
  obtain ⟨o, rfl, hP⟩ := loop_list hL c.ins.length (fun i v => ∃ acc : List Ins, v = [.int i, .list (acc.map Ins.d)] ∧ acc.length ≤ i ∧ acc ++ keep (needOf c) i (c.ins.drop i) = keep (needOf c) 0 c.ins) (fun o => o = (458758, [.list ((keep (needOf c) 0 c.ins).map Ins.d)]))
    ⟨[], rfl, by simp, rfl⟩ (by
    rintro i v hi ⟨acc, rfl, hl, h⟩
    left
    rw [List.drop_eq_getElem_cons hi, keep] at h
    have hm := at_map Ins.d c.ins i hi
    have f1 : (acc.length : Int) + 1 ≤ 34359738368 := by omega
    by_cases hg : gb (needOf c) i = true
    · rw [if_pos hg] at h
      refine ⟨[.int (i + 1 : Nat), .list ((acc ++ [c.ins[i]]).map Ins.d)], ?_, _, rfl, by simp; omega, by simpa using h⟩
      simp [hi, nl, hg, hm, f1, wrap_nat (n := i) (by omega)]
    · rw [if_neg hg] at h
      refine ⟨[.int (i + 1 : Nat), .list (acc.map Ins.d)], ?_, _, rfl, by omega, h⟩
      simp [hi, nl, hg, wrap_nat (n := i) (by omega)]) (by
    rintro v ⟨acc, rfl, hl, h⟩
    rw [List.drop_length] at h
    simp only [keep, List.append_nil] at h
    subst h
    exact ⟨_, by simp [nl], by simp, rfl⟩)
  subst hP
  simp [trimC, Prg.d, intsD]

/-- The value of an instruction is made of those of its operands. -/
theorem insVal_same {x : Ins} {t : Delta} {ρ ρ' : List Val} (h : ∀ r ∈ operands x, gv ρ r.toNat = gv ρ' r.toNat) : insVal x t ρ = insVal x t ρ' := by
  unfold operands at h
  have hle := arity_le x.op
  unfold insVal
  generalize arity x.op = k at *
  have hk : k = 0 ∨ k = 1 ∨ k = 2 ∨ k = 3 := by omega
  rcases hk with rfl | rfl | rfl | rfl
  · simp
  · simp [h x.a (by simp)]
  · simp [h x.a (by simp), h x.b (by simp)]
  · simp [h x.a (by simp), h x.b (by simp), h x.c (by simp)]
theorem verI_mono {cols ps : List Int} {done done' : List Bool} {x : Ins} (h : verI cols ps done x = 0) (hd : ∀ r ∈ operands x, gb done' r.toNat = true) : verI cols ps done' x = 0 := by
  have e : (operands x).any (fun r => !gb done' r.toNat) = false := by
    rw [List.any_eq_false]
    intro r hr
    simp [hd r hr]
  have e2 : (operands x).any (fun r => !gb done r.toNat) = false := by
    rw [List.any_eq_false]
    intro r hr
    simp [(verI_ok h).2.2.2 r hr]
  unfold verI at h ⊢
  rw [e2] at h
  rw [e]
  exact h

theorem trim_sim {cols ps : List Int} (t : Delta) (need : List Bool) : ∀ {l : List Ins} {i i' : Nat} {done d done' : List Bool} {last : List Int} {ρ ρ' : List Val}, verGo cols ps l i done = .inr d →
    done.length = ps.length → done'.length = ps.length → last.length = ps.length → ρ.length = ps.length → ρ'.length = ps.length →
    (∀ r, gb done r = true → gb need (gi last r).toNat = true → gb done' r = true ∧ gv ρ' r = gv ρ r) →
    (∀ j, gb need (i + j) = true → ∀ k ∈ (srcGo l i last).1.getD j [], gb need k.toNat = true) →
    ∃ d', verGo cols ps (keep need i l) i' done' = .inr d' ∧ ∀ r, gb d r = true → gb need (gi (srcGo l i last).2 r).toNat = true → gb d' r = true ∧ gv (runRow (keep need i l) t ρ') r = gv (runRow l t ρ) r
  | [], i, i', done, d, done', last, ρ, ρ', h, _, _, _, _, _, hH, _ => by
    simp only [verGo, Sum.inr.injEq] at h
    subst h
    exact ⟨done', rfl, hH⟩
  | x :: l, i, i', done, d, done', last, ρ, ρ', h, l1, l2, l3, l4, l5, hH, hC => by
    simp only [verGo] at h
    split at h
    case isFalse => simp at h
    rename_i h0
    obtain ⟨_, k2, _, k4⟩ := verI_ok h0
    have hx := (k2 x.to (List.mem_cons_self ..)).2
    have hC' : ∀ j, gb need (i + 1 + j) = true → ∀ k ∈ (srcGo l (i + 1) (last.set x.to.toNat i)).1.getD j [], gb need k.toNat = true := by
      intro j hj k hk
      refine hC (j + 1) (by rwa [show i + (j + 1) = i + 1 + j by omega]) k ?_
      simpa only [srcGo, List.getD_cons_succ] using hk
    by_cases hn : gb need i = true
    · have hop : ∀ r ∈ operands x, gb done' r.toNat = true ∧ gv ρ' r.toNat = gv ρ r.toNat := by
        intro r hr
        refine hH _ (k4 r hr) (hC 0 hn _ ?_)
        simp only [srcGo, List.getD_cons_zero, List.mem_map]
        exact ⟨r, hr, rfl⟩
      have hv := insVal_same (t := t) (fun r hr => (hop r hr).2)
      have h0' := verI_mono h0 (fun r hr => (hop r hr).1)
      obtain ⟨d', g1, g2⟩ := trim_sim t need (i' := i' + 1) (done' := done'.set x.to.toNat true) (ρ := ρ.set x.to.toNat (insVal x t ρ)) (ρ' := ρ'.set x.to.toNat (insVal x t ρ')) h (by simpa using l1) (by simpa using l2) (by simpa using l3) (by simpa using l4) (by simpa using l5) (by
        intro r hr hr2
        rw [gb_set] at hr ⊢
        rw [gi_set] at hr2
        rw [gv_set, gv_set]
        by_cases e : x.to.toNat = r
        · rw [if_pos ⟨e, by omega⟩, if_pos ⟨e, by omega⟩, if_pos ⟨e, by omega⟩]
          exact ⟨rfl, hv⟩
        · rw [if_neg (by omega)] at hr hr2 ⊢
          rw [if_neg (by omega), if_neg (by omega)]
          exact hH r hr hr2) hC'
      refine ⟨d', ?_, ?_⟩
      · simp only [keep, if_pos hn, verGo, if_pos h0']
        exact g1
      · simp only [keep, if_pos hn]
        exact g2
    · obtain ⟨d', g1, g2⟩ := trim_sim t need (i' := i') (done' := done') (ρ := ρ.set x.to.toNat (insVal x t ρ)) (ρ' := ρ') h (by simpa using l1) l2 (by simpa using l3) (by simpa using l4) l5 (by
        intro r hr hr2
        rw [gb_set] at hr
        rw [gi_set] at hr2
        rw [gv_set]
        by_cases e : x.to.toNat = r
        · rw [if_pos ⟨e, by omega⟩] at hr2
          exact absurd hr2 hn
        · rw [if_neg (by omega)] at hr hr2 ⊢
          exact hH r hr hr2) hC'
      refine ⟨d', ?_, ?_⟩
      · simp only [keep, if_neg hn]
        exact g1
      · simp only [keep, if_neg hn]
        exact g2

theorem trim_okay {c : Prg} {cols : List Int} (h : Okay c cols) : Okay (trimC c) cols ∧ ∀ t, valRow (trimC c) t = valRow c t := by
  obtain ⟨hs, hv, _⟩ := okay_src h
  obtain ⟨d, h1, h2⟩ := h.ins
  have hcl := neGo_closed (srcOf c) c.ins.length hs c.ins.length ((List.replicate c.ins.length false).set (valueOf c).toNat true) (by simp) (by
    intro j hj hg
    have := gb_lt hg
    simp at this
    omega)
  have hval : gb (needOf c) (valueOf c).toNat = true := by
    refine hcl.2 _ ?_
    rw [gb_set, if_pos ⟨rfl, by simpa using hv.2⟩]
  have key := fun t => trim_sim t (needOf c) (i' := 0) (done' := List.replicate c.types.length false) (last := last0 c.types.length) (ρ := List.replicate c.types.length default) (ρ' := List.replicate c.types.length default) h1
    (by simp) (by simp) (by simp [last0]) (by simp) (by simp) (by intro r hr; rw [gb_none] at hr; simp at hr) (by
      intro j hj
      rw [Nat.zero_add] at hj
      exact hcl.1 j hj)
  refine ⟨⟨⟨?_, h.len.2⟩, h.kinds, ?_, h.out⟩, ?_⟩
  · have := keep_len (needOf c) c.ins 0
    have := h.len.1
    simp only [trimC]
    omega
  · obtain ⟨d', g1, g2⟩ := key ⟨0, [], 0⟩
    exact ⟨d', g1, (g2 _ h2 hval).1⟩
  · intro t
    obtain ⟨d', g1, g2⟩ := key t
    exact (g2 _ h2 hval).2
end Go.Proofs.YtlbckmllpciglaaDoor
