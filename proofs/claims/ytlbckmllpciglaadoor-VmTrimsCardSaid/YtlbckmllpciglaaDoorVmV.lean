/- Compact changes no value: the two programs side by side. -/
import Derived.Test.YtlbckmllpciglaaDoorVmU
set_option linter.unusedVariables false
set_option linter.unusedSimpArgs false
set_option linter.all false
namespace Go.Proofs.YtlbckmllpciglaaDoor
open Go Sy

theorem gv_append_lt {l m : List Val} {i : Nat} (h : i < l.length) : gv (l ++ m) i = gv l i := by
  unfold gv
  rw [List.getD_eq_getElem?_getD, List.getD_eq_getElem?_getD, List.getElem?_append_left h]
theorem gv_append_end (l : List Val) (v : Val) : gv (l ++ [v]) l.length = v := by
  unfold gv
  rw [List.getD_eq_getElem?_getD, List.getElem?_append_right (Nat.le_refl _), Nat.sub_self]
  rfl
theorem gi_putT {ts : List Int} {K p n : Nat} {T : Int} (hn : n = ts.length) (hK : K ≤ n) (hp : p < (putT ts K T n).length) : gi (putT ts K T n) p = if K = n ∧ p = K then T else gi ts p := by
  rw [putT_len] at hp
  unfold putT
  subst hn
  by_cases h : K = ts.length
  · rw [if_pos h] at hp ⊢
    subst h
    by_cases e : p = ts.length
    · subst e
      rw [gi_append_end, if_pos ⟨rfl, rfl⟩]
    · rw [gi_append_lt (by omega), if_neg (by omega)]
  · rw [if_neg h, if_neg (by omega)]

theorem comp_sim {cols ps en : List Int} (t : Delta) (n : Nat) (F : List Int) : ∀ {l : List Ins} {i i' : Nat} {done d done' : List Bool} {last tl holds place ts : List Int} {ρ ρ' vs : List Val}, verGo cols ps l i done = .inr d →
    done.length = ps.length → last.length = ps.length → ρ.length = ps.length →
    (∀ r, gb done r = true → 0 ≤ gi last r ∧ (gi last r).toNat < i ∧ gv ρ r = gv vs (gi last r).toNat ∧ gi ps r = gi tl (gi last r).toNat) →
    vs.length = i → tl.length = i → place.length = n → i + l.length = n → holds.length = ts.length →
    (∀ p, p < holds.length → 0 ≤ gi holds p ∧ (gi holds p).toNat < i ∧ gb done' p = true ∧ gi ts p = gi tl (gi holds p).toNat ∧ gv ρ' p = gv vs (gi holds p).toNat) →
    (∀ j : Nat, j < i → (i : Int) ≤ gi en j → 0 ≤ gi place j ∧ (gi place j).toNat < holds.length ∧ gi holds (gi place j).toNat = j) →
    (∀ j, ∀ k ∈ (srcGo l i last).1.getD j [], ((i + j : Nat) : Int) ≤ gi en k.toNat) →
    F = (cGo en ps l (srcGo l i last).1 i holds place ts).2.1 → done'.length = F.length → ρ'.length = F.length →
    ∃ d', verGo cols F (cGo en ps l (srcGo l i last).1 i holds place ts).1 i' done' = .inr d' ∧
      ∀ r, gb d r = true → (n : Int) ≤ gi en (gi (srcGo l i last).2 r).toNat → ∃ p : Nat, gi (cGo en ps l (srcGo l i last).1 i holds place ts).2.2 (gi (srcGo l i last).2 r).toNat = p ∧ p < F.length ∧ gb d' p = true ∧
        gv (runRow (cGo en ps l (srcGo l i last).1 i holds place ts).1 t ρ') p = gv (runRow l t ρ) r
  | [], i, i', done, d, done', last, tl, holds, place, ts, ρ, ρ', vs, h, l1, l2, l3, hA, l4, l5, l6, l7, l8, hB, hC, hD, hF, l9, l10 => by
    simp only [verGo, Sum.inr.injEq] at h
    subst h
    simp only [srcGo, cGo] at hF ⊢
    refine ⟨done', rfl, fun r hr he => ?_⟩
    simp only [List.length_nil, Nat.add_zero] at l7
    obtain ⟨a1, a2, a3, a4⟩ := hA r hr
    obtain ⟨c1, c2, c3⟩ := hC _ a2 (by omega)
    obtain ⟨b1, b2, b3, b4, b5⟩ := hB _ c2
    refine ⟨(gi place (gi last r).toNat).toNat, by omega, by rw [hF]; omega, b3, ?_⟩
    show gv ρ' _ = gv ρ r
    rw [b5, c3, a3, Int.toNat_natCast]
  | x :: l, i, i', done, d, done', last, tl, holds, place, ts, ρ, ρ', vs, h, l1, l2, l3, hA, l4, l5, l6, l7, l8, hB, hC, hD, hF, l9, l10 => by
    simp only [verGo] at h
    split at h
    case isFalse => simp at h
    rename_i h0
    obtain ⟨_, k2, _, k4⟩ := verI_ok h0
    have hx := (k2 x.to (List.mem_cons_self ..)).2
    simp only [srcGo, cGo] at hF ⊢
    rw [List.map_map]
    have hop : ∀ r ∈ operands x, 0 ≤ gi place (gi last r.toNat).toNat ∧ (gi place (gi last r.toNat).toNat).toNat < holds.length ∧ gb done' (gi place (gi last r.toNat).toNat).toNat = true ∧
        gi ts (gi place (gi last r.toNat).toNat).toNat = gi ps r.toNat ∧ gv ρ' (gi place (gi last r.toNat).toNat).toNat = gv ρ r.toNat := by
      intro r hr
      obtain ⟨a1, a2, a3, a4⟩ := hA _ (k4 r hr)
      have hd := hD 0 (gi last r.toNat) (by
        simp only [srcGo, List.getD_cons_zero, List.mem_map]
        exact ⟨r, hr, rfl⟩)
      obtain ⟨c1, c2, c3⟩ := hC _ a2 (by omega)
      obtain ⟨b1, b2, b3, b4, b5⟩ := hB _ c2
      rw [c3, Int.toNat_natCast] at b4 b5
      exact ⟨c1, c2, b3, by rw [b4, a4], by rw [b5, a3]⟩
    have hTT : ∀ K, regOf en i (gi ps x.to.toNat) holds ts = K → K < holds.length → gi ts K = gi ps x.to.toNat ∧ gi en (gi holds K).toNat ≤ i := by
      intro K hK hlt
      have := regOf_at (hK.symm ▸ hlt : regOf en i (gi ps x.to.toNat) holds ts < holds.length)
      rw [hK] at this
      simp at this
      exact ⟨this.2, this.1⟩
    have hKle := regOf_le en i (gi ps x.to.toNat) holds ts
    generalize hK : regOf en i (gi ps x.to.toNat) holds ts = K at *
    have hTT := hTT K rfl
    obtain ⟨suf, hs1, _⟩ := cGo_types en ps l (srcGo l (i + 1) (last.set x.to.toNat i)).1 (i + 1) (putH holds K i) (place.set i K) (putT ts K (gi ps x.to.toNat) holds.length)
    rw [hs1] at hF
    have htl := putT_len ts K holds.length (gi ps x.to.toNat)
    have hhl := putH_len holds K i
    have hFl : F.length = (putT ts K (gi ps x.to.toNat) holds.length).length + suf.length := by rw [hF, List.length_append]
    have hFp : ∀ p, p < (putT ts K (gi ps x.to.toNat) holds.length).length → gi F p = gi (putT ts K (gi ps x.to.toNat) holds.length) p := by
      intro p hp
      rw [hF, gi_append_lt hp]
    have hKF : K < (putT ts K (gi ps x.to.toNat) holds.length).length := by
      rw [htl]
      split <;> omega
    have hTK : gi (putT ts K (gi ps x.to.toNat) holds.length) K = gi ps x.to.toNat := by
      rw [gi_putT l8 hKle hKF]
      by_cases e : K = holds.length
      · rw [if_pos ⟨e, rfl⟩]
      · rw [if_neg (by omega)]
        exact (hTT (by omega)).1
    have hold : ∀ p, p < holds.length → gi (putT ts K (gi ps x.to.toNat) holds.length) p = gi ts p := by
      intro p hp
      rw [gi_putT l8 hKle (by rw [htl]; split <;> omega), if_neg (by omega)]
    have hle2 : holds.length ≤ (putT ts K (gi ps x.to.toNat) holds.length).length := by rw [htl]; split <;> omega
    have hv0 := mk_ver (f := (fun k => gi place k.toNat) ∘ fun r => gi last r.toNat) (F := F) (done' := done') (K := K) h0 (by
      intro r hr
      obtain ⟨o1, o2, o3, o4, o5⟩ := hop r hr
      refine ⟨o1, ?_, o3, ?_⟩
      · simp only [Function.comp_apply]
        omega
      · simp only [Function.comp_apply]
        rw [hFp _ (by omega), hold _ o2, o4]) (by omega) (by rw [hFp _ hKF, hTK])
    have hval := mk_val (x := x) (f := (fun k => gi place k.toNat) ∘ fun r => gi last r.toNat) (K := K) (t := t) (ρ := ρ) (ρ' := ρ') (by
      intro r hr
      exact (hop r hr).2.2.2.2)
    generalize hy : mkIns x ((operands x).map ((fun k => gi place k.toNat) ∘ fun r => gi last r.toNat)) K = y at *
    have hyto : y.to.toNat = K := by
      rw [← hy]
      simp [mkIns]
    obtain ⟨d', g1, g2⟩ := comp_sim (en := en) t n F (i' := i' + 1) (done' := done'.set K true) (ρ := ρ.set x.to.toNat (insVal x t ρ)) (ρ' := ρ'.set K (insVal x t ρ)) (vs := vs ++ [insVal x t ρ]) (tl := tl ++ [gi ps x.to.toNat])
      (last := last.set x.to.toNat i) (holds := putH holds K i) (place := place.set i K) (ts := putT ts K (gi ps x.to.toNat) holds.length) h (by simpa using l1) (by simpa using l2) (by simpa using l3) (by
        intro r hr
        rw [gb_set] at hr
        rw [gi_set, gv_set]
        by_cases e : x.to.toNat = r
        · rw [if_pos ⟨e, by omega⟩, if_pos ⟨e, by omega⟩]
          subst e
          refine ⟨by omega, by omega, ?_, ?_⟩
          · rw [Int.toNat_natCast, ← l4, gv_append_end]
          · rw [Int.toNat_natCast, ← l5, gi_append_end]
        · rw [if_neg (by omega)] at hr
          rw [if_neg (by omega), if_neg (by omega)]
          obtain ⟨a1, a2, a3, a4⟩ := hA r hr
          exact ⟨a1, by omega, by rw [gv_append_lt (by omega), a3], by rw [gi_append_lt (by omega), a4]⟩) (by simp [l4]) (by simp [l5]) (by simpa using l6) (by simp only [List.length_cons] at l7; omega) (by rw [htl, hhl]; split <;> omega) (by
        intro p hp
        rw [gi_putH hKle hp, gb_set, gv_set]
        rw [hhl] at hp
        by_cases e : p = K
        · rw [if_pos e, if_pos ⟨e.symm, by omega⟩, if_pos ⟨e.symm, by omega⟩]
          subst e
          refine ⟨by omega, by omega, rfl, ?_, ?_⟩
          · rw [hTK, Int.toNat_natCast, ← l5, gi_append_end]
          · rw [Int.toNat_natCast, ← l4, gv_append_end]
        · have hp2 : p < holds.length := by split at hp <;> omega
          obtain ⟨b1, b2, b3, b4, b5⟩ := hB p hp2
          rw [if_neg e, if_neg (by omega), if_neg (by omega)]
          exact ⟨b1, by omega, b3, by rw [hold p hp2, gi_append_lt (by omega), b4], by rw [gv_append_lt (by omega), b5]⟩) (by
        intro j hj he
        rw [gi_set]
        by_cases e : i = j
        · subst e
          simp only [List.length_cons] at l7
          rw [if_pos ⟨rfl, by omega⟩]
          refine ⟨by omega, by rw [Int.toNat_natCast, hhl]; split <;> omega, ?_⟩
          rw [Int.toNat_natCast, gi_putH hKle (by rw [hhl]; split <;> omega), if_pos rfl]
        · rw [if_neg (by omega)]
          obtain ⟨c1, c2, c3⟩ := hC j (by omega) (by omega)
          refine ⟨c1, by rw [hhl]; split <;> omega, ?_⟩
          rw [gi_putH hKle (by rw [hhl]; split <;> omega), if_neg, c3]
          intro e2
          rw [e2] at c2 c3
          have := (hTT c2).2
          rw [c3, Int.toNat_natCast] at this
          omega) (by
        intro j k hk
        have := hD (j + 1) k (by simpa only [srcGo, List.getD_cons_succ] using hk)
        omega) (by rw [hs1, hF]) (by simpa using l9) (by simpa using l10)
    refine ⟨d', ?_, ?_⟩
    · simp only [verGo]
      rw [if_pos hv0, hyto]
      exact g1
    · have e1 : ∀ q, runRow (y :: q) t ρ' = runRow q t (ρ'.set K (insVal x t ρ)) := by
        intro q
        show runRow q t (ρ'.set y.to.toNat (insVal y t ρ')) = _
        rw [hyto, hval]
      rw [e1]
      exact g2

theorem comp_okay {c : Prg} {cols : List Int} (h : Okay c cols) : Okay (compC c) cols ∧ (compC c).ins.length = c.ins.length ∧ ∀ t, valRow (compC c) t = valRow c t := by
  obtain ⟨hs, hv, hin⟩ := okay_src h
  obtain ⟨d, h1, h2⟩ := h.ins
  obtain ⟨e1, e2⟩ := endOf_facts h
  have hsl : (srcOf c).length = c.ins.length := (srcGo_len ..).1
  obtain ⟨suf, s1, s2, s3, s4, s5⟩ := cGo_types (endOf c) c.types c.ins (srcOf c) 0 [] (List.replicate c.ins.length 0) []
  rw [List.nil_append] at s1
  have hF : (cRes c).2.1 = suf := s1
  have key := fun t => comp_sim (en := endOf c) t c.ins.length (cRes c).2.1 (i' := 0) (done' := List.replicate (cRes c).2.1.length false) (last := last0 c.types.length) (ρ := List.replicate c.types.length default) (ρ' := List.replicate (cRes c).2.1.length default)
    (vs := []) (tl := []) (holds := []) (ts := []) (place := List.replicate c.ins.length 0) h1
    (by simp) (by simp [last0]) (by simp) (by intro r hr; rw [gb_none] at hr; simp at hr) rfl rfl (by simp) (by simp) rfl (by intro p hp; simp at hp) (by intro j hj; omega) (by
      intro j k hk
      rw [Nat.zero_add]
      exact e1 j k hk) rfl (by simp) (by simp)
  have hval := fun t => (key t)
  refine ⟨⟨⟨?_, ?_⟩, ?_, ?_, ?_⟩, s3 hsl, ?_⟩
  · have := h.len.1
    have : (compC c).ins.length = c.ins.length := s3 hsl
    omega
  · have := h.len.1
    show (cRes c).2.1.length ≤ 1000
    rw [hF]
    omega
  · show (cRes c).2.1.all kindOK = true
    rw [hF]
    exact s5 hin h.kinds
  · obtain ⟨d', g1, g2⟩ := key ⟨0, [], 0⟩
    obtain ⟨p, p1, p2, p3, p4⟩ := g2 _ h2 (by show (c.ins.length : Int) ≤ gi (endOf c) (valueOf c).toNat; omega)
    refine ⟨d', g1, ?_⟩
    show gb d' (gi (cRes c).2.2 (valueOf c).toNat).toNat = true
    have : gi (cRes c).2.2 (valueOf c).toNat = p := p1
    rw [this, Int.toNat_natCast]
    exact p3
  · obtain ⟨d', g1, g2⟩ := key ⟨0, [], 0⟩
    obtain ⟨p, p1, p2, p3, p4⟩ := g2 _ h2 (by show (c.ins.length : Int) ≤ gi (endOf c) (valueOf c).toNat; omega)
    have e : (compC c).out = p := p1
    rw [e, Int.toNat_natCast]
    exact ⟨by omega, p2⟩
  · intro t
    obtain ⟨d', g1, g2⟩ := key t
    obtain ⟨p, p1, p2, p3, p4⟩ := g2 _ h2 (by show (c.ins.length : Int) ≤ gi (endOf c) (valueOf c).toNat; omega)
    have e : (compC c).out = p := p1
    unfold valRow
    rw [e, Int.toNat_natCast]
    exact p4
end Go.Proofs.YtlbckmllpciglaaDoor
