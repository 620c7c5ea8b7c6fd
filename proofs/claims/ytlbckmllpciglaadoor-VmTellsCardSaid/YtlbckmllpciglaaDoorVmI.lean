/- What the functions on rows answer: which rows are right, and equal. -/
import Derived.Test.YtlbckmllpciglaaDoorVmH
set_option linter.unusedVariables false
set_option linter.unusedSimpArgs false
set_option linter.all false
namespace Go.Proofs.YtlbckmllpciglaaDoor
open Go Sy

def big : Nat := 140737488355328
def rightV (v : Val) : Bool := if v.kind = 0 then v.s == [] else if v.kind = 1 then (v.n == 0) && decide ((v.s.length : Int) ≤ 200) else (v.kind == 2) && ((v.n == 0) || (v.n == 1)) && (v.s == [])
theorem s_right03 (v : Val) : R 53 [v.d] = some [.bool (rightV v)] := by
  rw [r53, e53]
  unfold rightV
  by_cases h0 : v.kind = 0
  · simp [Val.d, h0]
  by_cases h1 : v.kind = 1
  · simp [Val.d, h1]
  simp [Val.d, h0, h1]
theorem s_right (v : Val) : R 81 [v.d] = some [.bool (rightV v)] := by
  have k0 : at_ v.d.asA 0 = .int v.kind := rfl
  have k1 : at_ v.d.asA 1 = .int v.n := rfl
  have k2 : at_ v.d.asA 2 = .str v.s := rfl
  rw [r81, e81, k0, k1, k2]
  by_cases h0 : v.kind = 0
  · simp [h0, s_vInt]
    rw [Bool.eq_iff_iff]
    obtain ⟨k, n, s⟩ := v
    simp only at h0
    simp [rightV, vInt, h0]
  by_cases h1 : v.kind = 1
  · simp [h1, s_vText]
    rw [Bool.eq_iff_iff]
    obtain ⟨k, n, s⟩ := v
    simp only at h1
    simp [rightV, vText, h1]
  · simp [h0, h1, s_vBool]
    cases hb : (v == vBool false)
    · simp [s_vBool]
      rw [Bool.eq_iff_iff]
      obtain ⟨k, n, s⟩ := v
      simp only at h0 h1
      simp [vBool] at hb
      simp [rightV, vBool, h0, h1]
      grind
    · simp
      have : v = vBool false := by simpa using hb
      subst this
      rfl

/-- Where a condition holds first, of values. -/
theorem s_containsV (l : List Val) (f : D) (p : Val → Bool) (hl : l.length ≤ 4611686018427387904) (h : ∀ x ∈ l, callD R f [x.d] = some [.bool (p x)]) : R 79 [rowD l, f] = some [.bool (l.any p)] := by
  have key : ∃ i : Int, R 92 [rowD l, f] = some [.int i] ∧ (decide (0 ≤ i) = l.any p) := by
    rw [r92, e92]
    generalize hL : loopL _ _ = L
    have key := loop_list hL l.length (fun i v => v = [.int i] ∧ (l.take i).any p = false) (fun o => (o = (327686, []) ∧ l.any p = false) ∨ (∃ i : Nat, o = (2, [.int i]) ∧ l.any p = true)) ⟨rfl, rfl⟩
    obtain ⟨o, rfl, h2⟩ := key (by
      rintro i v hi ⟨rfl, hv⟩
      have hx := h l[i] (List.getElem_mem hi)
      have hm := at_map Val.d l i hi
      have ht := any_take_succ hi hv
      cases hp : p l[i]
      · left
        refine ⟨[.int (i + 1 : Nat)], ?_, rfl, by rw [ht, hp]⟩
        simp [hi, hm, hx, hp, wrap_nat (n := i) (by omega)]
      · right
        refine ⟨(2, [.int i]), ?_, by simp, .inr ⟨i, rfl, ?_⟩⟩
        · simp [hi, hm, hx, hp]
        · rw [List.any_eq_true]
          exact ⟨l[i], List.getElem_mem hi, hp⟩) (by
      rintro v ⟨rfl, hv⟩
      refine ⟨(327686, []), by simp, by simp, .inl ⟨rfl, by simpa using hv⟩⟩)
    rcases h2 with ⟨rfl, h3⟩ | ⟨i, rfl, h3⟩
    · exact ⟨-1, by simp, by rw [h3]; rfl⟩
    · exact ⟨i, by simp, by rw [h3]; simp⟩
  obtain ⟨i, h1, h2⟩ := key
  rw [r79, e79, h1]
  simp [← h2]

def rightRow (l : List Val) : Bool := decide ((l.length : Int) ≤ 12) && l.all rightV
theorem any_not_all {α : Type} (p : α → Bool) : ∀ l : List α, l.any (fun x => !p x) = !l.all p
  | [] => rfl
  | x :: l => by rw [List.any_cons, any_not_all p l, List.all_cons, Bool.not_and]
theorem s_rightRow (l : List Val) : R 42 [rowD l] = some [.bool (rightRow l)] := by
  rw [r42, e42]
  unfold rightRow
  by_cases hl : (l.length : Int) ≤ 12
  · have h := s_containsV l (.fn 80 [] []) (fun v => !rightV v) (by omega) (by
      intro v _
      simp only [callD_fn, List.nil_append, List.append_nil]
      rw [r80, e80, s_right]
      simp)
    rw [any_not_all] at h
    have h2 : R 59 [rowD l] = some [.bool (l.all rightV)] := by
      rw [r59, e59, h]
      simp
    simp [hl, h2]
  · simp [hl]
theorem s_rightRow03 (l : List Val) : R 23 [rowD l] = some [.bool (rightRow l)] := by
  rw [r23, e23]
  unfold rightRow
  by_cases hl : (l.length : Int) ≤ 12
  · have h2 : R 36 [rowD l] = some [.bool (l.all rightV)] := by
      rw [r36, e36]
      generalize hL : loopL _ _ = L
      have hA := loop_any hL l (fun v => !rightV v) (2, [.bool false]) (327686, []) rfl (by simp) (by simp) (by
        intro i hi
        have hm := at_map Val.d l i hi
        cases hv : rightV l[i] <;> simp [hi, hm, s_right03, hv, wrap_nat (n := i) (by omega)]) (by simp)
      rw [any_not_all] at hA
      subst hA
      cases l.all rightV <;> simp
    simp [hl, h2]
  · simp [hl]

def kindsAre (cols : List Int) (row : List Val) : Bool := (List.range cols.length).all fun i => (gv row i).kind == gi cols i
def fitsRow (cols : List Int) (x : Delta) : Bool := ((x.row.length : Int) == cols.length) && rightRow x.row && kindsAre cols x.row
def fits (cols : List Int) (l : List Delta) : Bool := l.all (fitsRow cols)

theorem s_fits (cols : List Int) (l : List Delta) (hl : l.length ≤ big) (hc : cols.length ≤ big) : R 27 [intsD cols, deltasD l] = some [.bool (fits cols l)] := by
  unfold big at hl hc
  rw [r27, e27]
  generalize hL : loopL _ _ = L
  have hA := loop_any hL l (fun x => !fitsRow cols x) (2, [.bool false]) (327686, []) rfl (by simp) (by simp) (by
    intro i hi
    have hm := at_map Delta.d l i hi
    have hd : at_ (l[i]).d.asA 1 = rowD (l[i]).row := rfl
    unfold fitsRow
    cases hlen : (((l[i]).row.length : Int) == cols.length)
    · simp [hi, hm, hd, hlen]
    have hlen' : (l[i]).row.length = cols.length := by have := beq_iff_eq.1 hlen; omega
    have hrr := s_rightRow (l[i]).row
    unfold rowD at hrr
    cases hr : rightRow (l[i]).row
    · rw [hr] at hrr
      simp [hi, hm, hd, hlen, hrr, rowD]
    rw [hr] at hrr
    simp [hi, hm, hd, hlen, hrr, rowD, wrap_nat (n := i) (by omega)]
    generalize hL' : loopL _ _ = L'
    have hB := loop_any hL' (List.range cols.length) (fun k => !((gv (l[i]).row k).kind == gi cols k)) (2, [.bool false]) (983048, [.bool false, .int cols.length]) rfl (by simp) (by simp) (by
      intro k hk
      simp only [List.length_range] at hk
      have hv := at_val (l := (l[i]).row) (i := k) (by omega)
      have hv0 : at_ (gv (l[i]).row k).d.asA 0 = .int (gv (l[i]).row k).kind := rfl
      by_cases hq : (gv (l[i]).row k).kind = gi cols k <;> simp [hk, hlen', hv, hv0, hq, wrap_nat (n := k) (by omega)]) (by simp)
    rw [any_not_all] at hB
    subst hB
    unfold kindsAre
    cases (List.range cols.length).all fun k => (gv (l[i]).row k).kind == gi cols k <;> simp) (by simp)
  rw [any_not_all] at hA
  subst hA
  unfold fits
  cases l.all (fitsRow cols) <;> simp

theorem s_fits27 (cols : List Int) (l : List Delta) (hl : l.length ≤ big) (hc : cols.length ≤ big) : R 8 [intsD cols, deltasD l] = some [.bool (fits cols l)] := by
  unfold big at hl hc
  rw [r8, e8]
  generalize hL : loopL _ _ = L
  have hA := loop_any hL l (fun x => !fitsRow cols x) (2, [.bool false]) (327686, []) rfl (by simp) (by simp) (by
    intro i hi
    have hm := at_map Delta.d l i hi
    have hd : at_ (l[i]).d.asA 1 = rowD (l[i]).row := rfl
    unfold fitsRow
    cases hlen : (((l[i]).row.length : Int) == cols.length)
    · simp [hi, hm, hd, hlen]
    have hlen' : (l[i]).row.length = cols.length := by have := beq_iff_eq.1 hlen; omega
    have hrr := s_rightRow03 (l[i]).row
    unfold rowD at hrr
    cases hr : rightRow (l[i]).row
    · rw [hr] at hrr
      simp [hi, hm, hd, hlen, hrr, rowD]
    rw [hr] at hrr
    simp [hi, hm, hd, hlen, hrr, rowD, wrap_nat (n := i) (by omega)]
    generalize hL' : loopL _ _ = L'
    have hB := loop_any hL' (List.range cols.length) (fun k => !((gv (l[i]).row k).kind == gi cols k)) (2, [.bool false]) (983048, [.bool false, .int cols.length, .int cols.length]) rfl (by simp) (by simp) (by
      intro k hk
      simp only [List.length_range] at hk
      have hv := at_val (l := (l[i]).row) (i := k) (by omega)
      have hv0 : at_ (gv (l[i]).row k).d.asA 0 = .int (gv (l[i]).row k).kind := rfl
      by_cases hq : (gv (l[i]).row k).kind = gi cols k <;> simp [hk, hlen', hv, hv0, hq, wrap_nat (n := k) (by omega)]) (by simp)
    rw [any_not_all] at hB
    subst hB
    unfold kindsAre
    cases (List.range cols.length).all fun k => (gv (l[i]).row k).kind == gi cols k <;> simp) (by simp)
  rw [any_not_all] at hA
  subst hA
  unfold fits
  cases l.all (fitsRow cols) <;> simp

def short (l : List Val) (n : Int) : Bool := l.all (fun v => !decide ((300 : Int) < (v.s.length : Int))) && decide ((l.length : Int) ≤ n)
theorem s_short (l : List Val) (n : Int) (hl : l.length ≤ big) : R 22 [rowD l, .int n] = some [.bool (short l n)] := by
  unfold big at hl
  rw [r22, e22]
  generalize hL : loopL _ _ = L
  have hA := loop_any hL l (fun v => !(fun v : Val => !decide ((300 : Int) < (v.s.length : Int))) v) (2, [.bool false]) (327686, []) rfl (by simp) (by simp) (by
    intro i hi
    have hm := at_map Val.d l i hi
    have hv2 : at_ (l[i]).d.asA 2 = .str (l[i]).s := rfl
    by_cases hq : (300 : Int) < ((l[i]).s.length : Int) <;> simp [hi, hm, hv2, hq, wrap_nat (n := i) (by omega)]) (by simp)
  rw [any_not_all] at hA
  subst hA
  unfold short
  cases l.all (fun v => !decide ((300 : Int) < (v.s.length : Int))) <;> simp

def light (c : Prg) (cols : List Int) (l : List Delta) : Bool :=
  (c.ins.take 101).all (fun x => !decide ((300 : Int) < (x.s.length : Int))) && (l.take 31).all (fun x => short x.row 15) &&
  (decide ((c.ins.length : Int) ≤ 100) && decide ((c.types.length : Int) ≤ 100) && decide ((cols.length : Int) ≤ 20) && decide ((l.length : Int) ≤ 30))
theorem s_light (c : Prg) (cols : List Int) (l : List Delta) (hr : ∀ x ∈ l, x.row.length ≤ big) : R 7 [c.d, intsD cols, deltasD l] = some [.bool (light c cols l)] := by
  rw [r7, e7]
  obtain ⟨ins, types, out⟩ := c
  simp only [Prg.d, asA_agg', at_zero, at_one, at_two, asL_list', intsD_asL, deltasD_asL, List.length_map, asI_int']
  generalize hL : loopL _ _ = L
  have hA := loop_any hL (ins.take 101) (fun x => !(fun x : Ins => !decide ((300 : Int) < (x.s.length : Int))) x) (2, [.bool false]) (327686, []) rfl (by simp) (by simp) (by
    intro i hi
    simp only [List.length_take] at hi
    have h1 : i < 101 := by omega
    have h2 : i < ins.length := by omega
    have h3 : (i : Int) < 101 := by omega
    have hm := at_map Ins.d ins i h2
    have hv6 : at_ (ins[i]).d.asA 6 = .str (ins[i]).s := rfl
    by_cases hq : (300 : Int) < ((ins[i]).s.length : Int) <;> simp [h2, h3, hm, hv6, hq, wrap_nat (n := i) (by omega)]) (by
    have : ¬ ((min 101 ins.length : Nat) : Int) < ins.length ∨ ¬ ((min 101 ins.length : Nat) : Int) < 101 := by omega
    rcases this with h | h <;> simp at h <;> simp <;> omega)
  rw [any_not_all] at hA
  subst hA
  unfold light
  generalize (ins.take 101).all (fun x => !decide ((300 : Int) < (x.s.length : Int))) = b1
  cases b1
  · simp
  simp
  generalize hL : loopL _ _ = L
  have hB := loop_any hL (l.take 31) (fun x => !(fun x : Delta => short x.row 15) x) (2, [.bool false]) (983048, []) rfl (by simp) (by simp) (by
    intro i hi
    simp only [List.length_take] at hi
    have h2 : i < l.length := by omega
    have h3 : (i : Int) < 31 := by omega
    have hm := at_map Delta.d l i h2
    have hv1 : at_ (l[i]).d.asA 1 = rowD (l[i]).row := rfl
    have hs := s_short (l[i]).row 15 (hr _ (List.getElem_mem h2))
    cases hq : short (l[i]).row 15 <;> rw [hq] at hs <;> simp [h2, h3, hm, hv1, hs, hq, wrap_nat (n := i) (by omega)]) (by
    have : ¬ ((min 31 l.length : Nat) : Int) < l.length ∨ ¬ ((min 31 l.length : Nat) : Int) < 31 := by omega
    rcases this with h | h <;> simp at h <;> simp <;> omega)
  rw [any_not_all] at hB
  subst hB
  generalize (l.take 31).all (fun x => short x.row 15) = b2
  cases b2 <;> simp

def cmp03 (a b : Val) : Int := if a.kind < b.kind then -1 else if b.kind < a.kind then 1 else if a.n < b.n then -1 else if b.n < a.n then 1 else if strLt a.s b.s then -1 else if strLt b.s a.s then 1 else 0
theorem s_cmp03 (a b : Val) : R 47 [a.d, b.d] = some [.int (cmp03 a b)] := by
  rw [r47, e47]
  unfold cmp03
  simp only [Val.d, asA_agg', at_zero, at_one, at_two, asI_int', asS_str']
  by_cases h1 : a.kind < b.kind
  · simp [h1]
  by_cases h2 : b.kind < a.kind
  · simp [h1, h2]
  by_cases h3 : a.n < b.n
  · simp [h1, h2, h3]
  by_cases h4 : b.n < a.n
  · simp [h1, h2, h3, h4]
  cases h5 : strLt a.s b.s
  · cases h6 : strLt b.s a.s <;> simp [h1, h2, h3, h4, h5, h6]
  · simp [h1, h2, h3, h4, h5]
theorem cmp03_eq (a b : Val) : cmp03 a b = 0 ↔ a = b := by
  constructor
  · intro h
    unfold cmp03 at h
    have ht := strLt_total (a := a.s) (b := b.s)
    obtain ⟨k, n, s⟩ := a
    obtain ⟨k', n', s'⟩ := b
    simp only at h ht
    (repeat' split at h) <;> first | (simp at h; done) | skip
    rename_i g1 g2 g3 g4 g5 g6
    simp only [Bool.not_eq_true] at g5 g6
    rw [g5, g6] at ht
    simp at ht
    have : k = k' := by omega
    have : n = n' := by omega
    simp [*]
  · rintro rfl
    unfold cmp03
    have ht := strLt_total (a := a.s) (b := a.s)
    have : strLt a.s a.s = false := by cases h : strLt a.s a.s <;> simp [h] at ht ⊢
    simp [this]
theorem s_cmpRows (a b : List Val) (ha : a.length ≤ big) (hb : b.length ≤ big) : ∃ k : Int, R 29 [rowD a, rowD b] = some [.int k] ∧ (k = 0 ↔ a = b) := by
  unfold big at ha hb
  rw [r29, e29]
  generalize hL : loopL _ _ = L
  obtain ⟨o, rfl, hP⟩ := loop_list hL (min a.length b.length) (fun i v => v = [.int i] ∧ a.take i = b.take i) (fun o => (o = (327686, []) ∧ a.take (min a.length b.length) = b.take (min a.length b.length)) ∨ ∃ k : Int, k ≠ 0 ∧ o = (2, [.int k]) ∧ a ≠ b) ⟨rfl, by simp⟩ (by
    rintro i v hi ⟨rfl, hv⟩
    have h1 : i < a.length := by omega
    have h2 : i < b.length := by omega
    have hm := at_map Val.d a i h1
    have hm' := at_map Val.d b i h2
    have hs := s_cmp03 a[i] b[i]
    by_cases h0 : cmp03 a[i] b[i] = 0
    · left
      refine ⟨[.int (i + 1 : Nat)], ?_, rfl, ?_⟩
      · simp [h1, h2, hm, hm', hs, h0, wrap_nat (n := i) (by omega)]
      · rw [List.take_succ_eq_append_getElem h1, List.take_succ_eq_append_getElem h2, hv, (cmp03_eq _ _).1 h0]
    · right
      refine ⟨(2, [.int (cmp03 a[i] b[i])]), ?_, by simp, .inr ⟨_, h0, rfl, ?_⟩⟩
      · simp [h1, h2, hm, hm', hs, h0]
      · rintro rfl
        exact h0 ((cmp03_eq _ _).2 rfl)) (by
    rintro v ⟨rfl, hv⟩
    refine ⟨(327686, []), ?_, by simp, .inl ⟨rfl, hv⟩⟩
    have : ¬ ((min a.length b.length : Nat) : Int) < a.length ∨ ¬ ((min a.length b.length : Nat) : Int) < b.length := by omega
    rcases this with h | h <;> simp at h <;> simp <;> omega)
  rcases hP with ⟨rfl, hP⟩ | ⟨k, hk, rfl, hne⟩
  · by_cases h1 : a.length < b.length
    · exact ⟨-1, by simp [h1], by simp; rintro rfl; omega⟩
    by_cases h2 : b.length < a.length
    · exact ⟨1, by simp [h1, h2], by simp; rintro rfl; omega⟩
    · refine ⟨0, by simp [h1, h2], by simp; rwa [List.take_of_length_le (by omega), List.take_of_length_le (by omega)] at hP⟩
  · exact ⟨k, by simp, by simp [hk, hne]⟩
theorem s_same (a b : List Val) (ha : a.length ≤ big) (hb : b.length ≤ big) : R 11 [rowD a, rowD b] = some [.bool (a == b)] := by
  obtain ⟨k, h1, h2⟩ := s_cmpRows a b ha hb
  rw [r11, e11, h1]
  by_cases hk : k = 0
  · have := h2.1 hk
    simp [hk, this]
  · have : ¬ a = b := fun h => hk (h2.2 h)
    have e1 : (k == 0) = false := by simpa using hk
    have e2 : (a == b) = false := by simpa using this
    simp [e1, e2]
end Go.Proofs.YtlbckmllpciglaaDoor
