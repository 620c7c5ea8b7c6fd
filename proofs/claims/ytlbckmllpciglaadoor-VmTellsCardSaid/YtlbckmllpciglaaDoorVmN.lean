/- Which instructions are needed: Needed. -/
import Derived.Test.YtlbckmllpciglaaDoorVmL
set_option linter.unusedVariables false
set_option linter.unusedSimpArgs false
set_option linter.all false
namespace Go.Proofs.YtlbckmllpciglaaDoor
open Go Sy

/-- What is said of sources. -/
theorem src_facts {cols ps : List Int} : ∀ {l : List Ins} {i : Nat} {done d : List Bool} {last : List Int}, verGo cols ps l i done = .inr d → last.length = done.length → ps.length = done.length →
    (∀ r, gb done r = true → 0 ≤ gi last r ∧ (gi last r).toNat < i) →
    (∀ j, ∀ k ∈ (srcGo l i last).1.getD j [], 0 ≤ k ∧ k.toNat < i + j) ∧ (∀ r, gb d r = true → 0 ≤ gi (srcGo l i last).2 r ∧ (gi (srcGo l i last).2 r).toNat < i + l.length)
  | [], i, done, d, last, h, _, _, hd => by
    simp only [verGo, Sum.inr.injEq] at h
    subst h
    exact ⟨by simp [srcGo], by simpa [srcGo] using hd⟩
  | x :: l, i, done, d, last, h, hl, hp, hd => by
    simp only [verGo] at h
    split at h
    case isFalse => simp at h
    rename_i h0
    obtain ⟨k1, k2, _, k4⟩ := verI_ok h0
    have hx := (k2 x.to (List.mem_cons_self ..)).2
    obtain ⟨g1, g2⟩ := src_facts (last := last.set x.to.toNat i) h (by simpa using hl) (by simpa using hp) (by
      intro r hr
      rw [gb_set] at hr
      rw [gi_set]
      by_cases e : x.to.toNat = r
      · rw [if_pos ⟨e, by omega⟩]
        omega
      · rw [if_neg (by omega)] at hr ⊢
        have := hd r hr
        omega)
    refine ⟨?_, ?_⟩
    · intro j k hk
      cases j with
      | zero =>
        simp only [srcGo, List.getD_cons_zero, List.mem_map] at hk
        obtain ⟨r, hr, rfl⟩ := hk
        have := hd _ (k4 r hr)
        omega
      | succ j =>
        simp only [srcGo, List.getD_cons_succ] at hk
        have := g1 j k hk
        omega
    · intro r hr
      have := g2 r hr
      simp only [srcGo, List.length_cons]
      omega

def setAll (need : List Bool) (ks : List Int) : List Bool := ks.foldl (fun n k => n.set k.toNat true) need
/-- What is needed, seen from the end. -/
def neGo (src : List (List Int)) : Nat → List Bool → List Bool
  | 0, need => need
  | i + 1, need => neGo src i (if gb need i = true then setAll need (src.getD i []) else need)
def needOf (c : Prg) : List Bool := neGo (srcOf c) c.ins.length ((List.replicate c.ins.length false).set (valueOf c).toNat true)
theorem setAll_len : ∀ (ks : List Int) (need : List Bool), (setAll need ks).length = need.length
  | [], _ => rfl
  | k :: ks, need => by
    have := setAll_len ks (need.set k.toNat true)
    simpa [setAll] using this
theorem setAll_gb : ∀ (ks : List Int) (need : List Bool) (j : Nat), gb (setAll need ks) j = true ↔ gb need j = true ∨ (j < need.length ∧ ∃ k ∈ ks, k.toNat = j)
  | [], need, j => by simp [setAll]
  | k :: ks, need, j => by
    have := setAll_gb ks (need.set k.toNat true) j
    simp only [setAll, List.foldl_cons] at this ⊢
    rw [this, gb_set]
    by_cases h : k.toNat = j
    · subst h
      by_cases h2 : k.toNat < need.length
      · simp [h2]
      · simp [h2]
    · simp [h]
theorem gb_lt {l : List Bool} {i : Nat} (h : gb l i = true) : i < l.length := by
  unfold gb at h
  rw [List.getD_eq_getElem?_getD] at h
  by_cases h2 : i < l.length
  · exact h2
  · rw [List.getElem?_eq_none (by omega)] at h
    simp at h
theorem neGo_len (src : List (List Int)) : ∀ (i : Nat) (need : List Bool), (neGo src i need).length = need.length
  | 0, _ => rfl
  | i + 1, need => by
    rw [neGo, neGo_len src i]
    split
    · rw [setAll_len]
    · rfl
theorem neGo_closed (src : List (List Int)) (n : Nat) (hs : ∀ j, ∀ k ∈ src.getD j [], 0 ≤ k ∧ k.toNat < j) : ∀ (i : Nat) (need : List Bool), need.length = n → (∀ j, i ≤ j → gb need j = true → ∀ k ∈ src.getD j [], gb need k.toNat = true) →
    (∀ j, gb (neGo src i need) j = true → ∀ k ∈ src.getD j [], gb (neGo src i need) k.toNat = true) ∧ ∀ j, gb need j = true → gb (neGo src i need) j = true
  | 0, need, _, h => ⟨fun j => h j (Nat.zero_le _), fun _ h => h⟩
  | i + 1, need, hn, h => by
    rw [neGo]
    by_cases hi : gb need i = true
    · rw [if_pos hi]
      have hlt := gb_lt hi
      obtain ⟨g1, g2⟩ := neGo_closed src n hs i (setAll need (src.getD i [])) (by rw [setAll_len, hn]) (by
        intro j hj hg k hk
        rw [setAll_gb] at hg ⊢
        have hkj := hs j k hk
        rcases hg with hg | ⟨hg, k', hk', rfl⟩
        · by_cases e : j = i
          · subst e
            right
            exact ⟨by omega, k, hk, rfl⟩
          · exact .inl (h j (by omega) hg k hk)
        · have := hs i k' hk'
          omega)
      refine ⟨g1, fun j hj => g2 j ?_⟩
      rw [setAll_gb]
      exact .inl hj
    · rw [if_neg hi]
      exact neGo_closed src n hs i need hn (fun j hj hg => by
        by_cases e : j = i
        · subst e; exact absurd hg hi
        · exact h j (by omega) hg)

theorem src_le : ∀ (l : List Ins) (i : Nat) (last : List Int), ∀ s ∈ (srcGo l i last).1, s.length ≤ 3
  | [], i, last, s, h => by simp [srcGo] at h
  | x :: l, i, last, s, h => by
    simp only [srcGo, List.mem_cons] at h
    rcases h with rfl | h
    · rw [List.length_map]
      exact operands_le x
    · exact src_le l _ _ s h
theorem s_needed (c : Prg) (hlen : c.ins.length ≤ 1000 ∧ c.types.length ≤ 1000) (hin : ∀ x ∈ c.ins, inside c.types.length x) (hout : 0 ≤ c.out ∧ c.out.toNat < c.types.length)
    (hs : ∀ j, ∀ k ∈ (srcOf c).getD j [], 0 ≤ k ∧ k.toNat < j) (hv : 0 ≤ valueOf c ∧ (valueOf c).toNat < c.ins.length) : R 34 [c.d] = some [boolsD (needOf c)] := by
  rw [r34, e34]
  have h0 := s_sources c hlen hin hout
  have hsl : (srcOf c).length = c.ins.length := (srcGo_len ..).1
  have k0 : at_ c.d.asA 0 = .list (c.ins.map Ins.d) := rfl
  have hfit : (c.ins.length : Int) ≤ 34359738368 := by omega
  have v1 : valueOf c < (c.ins.length : Int) := by omega
  generalize hn : c.ins.length = n at *
  simp [h0, k0, hfit, hv.1, v1, hn]
  generalize hL : loopL _ _ = L
  obtain ⟨o, rfl, hP⟩ := loop_list hL n (fun i v => ∃ need, v = [.int ((n : Int) - 1 - i), boolsD need] ∧ need.length = n ∧ neGo (srcOf c) (n - i) need = needOf c) (fun o => o = (720902, [boolsD (needOf c)]))
    ⟨(List.replicate n false).set (valueOf c).toNat true, by rw [wrap64 (by omega)]; simp [boolsD, List.map_set], by simp, by rw [needOf, hn]; rfl⟩ (by
    rintro i v hi ⟨need, rfl, hl, h⟩
    left
    have e : ((n : Int) - 1 - i) = ((n - 1 - i : Nat) : Int) := by omega
    have e2 : n - i = (n - 1 - i) + 1 := by omega
    have e3 : n - (i + 1) = n - 1 - i := by omega
    have w : IntKind.wrap .i64 (((n - 1 - i : Nat) : Int) - 1) = (n : Int) - 1 - ((i + 1 : Nat) : Int) := by rw [wrap64 (by omega)]; omega
    have hi2 : ((n - 1 - i : Nat) : Int) < n := by omega
    rw [e2, neGo, ← e3] at h
    refine ⟨[.int ((n : Int) - 1 - (i + 1 : Nat)), boolsD (if gb need (n - (i + 1)) = true then setAll need ((srcOf c).getD (n - (i + 1)) []) else need)], ?_, _, rfl, by split <;> simp [setAll_len, hl], h⟩
    rw [e3, ← w]
    generalize hm : n - 1 - i = m at *
    have hm2 : m < n := by omega
    simp only [e]
    by_cases hg : gb need m = true
    · have em := at_map intsD (srcOf c) m (by omega)
      have eg : (srcOf c).getD m [] = (srcOf c)[m] := by rw [List.getD_eq_getElem?_getD, List.getElem?_eq_getElem (by omega)]; rfl
      have hk0 := hs m
      have hk3 : ((srcOf c)[m]).length ≤ 3 := by
        have hm3 : m < (srcOf c).length := by omega
        exact src_le _ _ _ _ (List.getElem_mem hm3)
      rw [eg] at hk0 ⊢
      generalize (srcOf c)[m] = ks at *
      simp [hg, hl, hm2, rowsI, hsl, em]
      generalize hL : loopL _ _ = L
      have hA := loop_to hL ks.length (fun k => [.int k, boolsD (setAll need (ks.take k))]) (1245192, [.bool false, .int ks.length, boolsD (setAll need ks)]) (by simp [setAll]) (by
        intro k hk
        have e := gi_at hk
        have hr := hk0 _ (List.getElem_mem hk)
        have hr2 : ks[k] < need.length := by omega
        have ht : setAll need (ks.take (k + 1)) = (setAll need (ks.take k)).set (ks[k]).toNat true := by
          rw [List.take_succ_eq_append_getElem hk]
          simp only [setAll, List.foldl_append, List.foldl_cons, List.foldl_nil]
        have hr3 : ks[k] < n := by omega
        simp [hk, e, hr.1, hr3, setAll_len, hl, wrap_nat (n := k) (by omega), ht, boolsD, List.map_set]) (by simp) (by simp)
      clear hL
      subst hA
      simp
    · simp [hg, hl, hm2]) (by
    rintro v ⟨need, rfl, hl, h⟩
    have e : ((n : Int) - 1 - n) = -1 := by omega
    rw [Nat.sub_self, neGo] at h
    subst h
    exact ⟨_, by simp [e], by simp, rfl⟩)
  subst hP
  simp
end Go.Proofs.YtlbckmllpciglaaDoor
