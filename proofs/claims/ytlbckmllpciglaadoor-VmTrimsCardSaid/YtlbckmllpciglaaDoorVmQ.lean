/- Compact: what it yields. -/
import Derived.Test.YtlbckmllpciglaaDoorVmO
set_option linter.unusedVariables false
set_option linter.unusedSimpArgs false
set_option linter.all false
namespace Go.Proofs.YtlbckmllpciglaaDoor
open Go Sy

def setTo (e : List Int) (s : List Int) (i : Nat) : List Int := s.foldl (fun e k => e.set k.toNat i) e
theorem setTo_len : ∀ (s : List Int) (e : List Int) (i : Nat), (setTo e s i).length = e.length
  | [], _, _ => rfl
  | k :: s, e, i => by
    have := setTo_len s (e.set k.toNat i) i
    simpa [setTo] using this
/-- The last instruction that reads each result. -/
def endGo : List (List Int) → Nat → List Int → List Int
  | [], _, e => e
  | s :: ss, i, e => endGo ss (i + 1) (setTo (e.set i i) s i)
def endOf (c : Prg) : List Int := (endGo (srcOf c) 0 (List.replicate c.ins.length 0)).set (valueOf c).toNat c.ins.length
theorem endGo_len : ∀ (ss : List (List Int)) (i : Nat) (e : List Int), (endGo ss i e).length = e.length
  | [], _, _ => rfl
  | s :: ss, i, e => by rw [endGo, endGo_len ss, setTo_len]; simp

/-- The first new register that is free and of the type. -/
def regOf (en : List Int) (i : Nat) (T : Int) (holds ts : List Int) : Nat := (List.range holds.length).findIdx fun k => !decide ((i : Int) < gi en (gi holds k).toNat) && (gi ts k == T)
def mkIns (x : Ins) (args : List Int) (k : Nat) : Ins := ⟨x.op, k, gi args 0, gi args 1, gi args 2, x.n, x.s⟩
def putH (holds : List Int) (k : Nat) (i : Nat) : List Int := if k = holds.length then holds ++ [(i : Int)] else holds.set k i
def putT (ts : List Int) (k : Nat) (T : Int) (n : Nat) : List Int := if k = n then ts ++ [T] else ts
def cGo (en ps : List Int) : List Ins → List (List Int) → Nat → List Int → List Int → List Int → List Ins × List Int × List Int
  | [], _, _, _, place, ts => ([], ts, place)
  | _, [], _, _, place, ts => ([], ts, place)
  | x :: l, s :: ss, i, holds, place, ts =>
    let k := regOf en i (gi ps x.to.toNat) holds ts
    let r := cGo en ps l ss (i + 1) (putH holds k i) (place.set i k) (putT ts k (gi ps x.to.toNat) holds.length)
    (mkIns x (s.map fun k => gi place k.toNat) k :: r.1, r.2.1, r.2.2)
def cRes (c : Prg) : List Ins × List Int × List Int := cGo (endOf c) c.types c.ins (srcOf c) 0 [] (List.replicate c.ins.length 0) []
def compC (c : Prg) : Prg := ⟨(cRes c).1, (cRes c).2.1, gi (cRes c).2.2 (valueOf c).toNat⟩
theorem regOf_le (en : List Int) (i : Nat) (T : Int) (holds ts : List Int) : regOf en i T holds ts ≤ holds.length := by
  unfold regOf
  have := List.findIdx_le_length (p := fun k => !decide ((i : Int) < gi en (gi holds k).toNat) && (gi ts k == T)) (xs := List.range holds.length)
  simpa using this
theorem regOf_before {en : List Int} {i : Nat} {T : Int} {holds ts : List Int} {k : Nat} (h : k < regOf en i T holds ts) : (decide ((i : Int) < gi en (gi holds k).toNat) || !(gi ts k == T)) = true := by
  unfold regOf at h
  have := List.not_of_lt_findIdx h
  rw [List.getElem_range] at this
  generalize decide ((i : Int) < gi en (gi holds k).toNat) = a at *
  generalize (gi ts k == T) = b at *
  cases a <;> cases b <;> simp_all
theorem regOf_at {en : List Int} {i : Nat} {T : Int} {holds ts : List Int} (h : regOf en i T holds ts < holds.length) : (decide ((i : Int) < gi en (gi holds (regOf en i T holds ts)).toNat) || !(gi ts (regOf en i T holds ts) == T)) = false := by
  have h2 : (List.range holds.length).findIdx (fun k => !decide ((i : Int) < gi en (gi holds k).toNat) && (gi ts k == T)) < (List.range holds.length).length := by simpa [regOf] using h
  have := List.findIdx_getElem (w := h2)
  rw [List.getElem_range] at this
  change (!decide ((i : Int) < gi en (gi holds (regOf en i T holds ts)).toNat) && (gi ts (regOf en i T holds ts) == T)) = true at this
  generalize decide ((i : Int) < gi en (gi holds (regOf en i T holds ts)).toNat) = a at *
  generalize (gi ts (regOf en i T holds ts) == T) = b at *
  cases a <;> cases b <;> simp_all
theorem putH_len (holds : List Int) (k i : Nat) : (putH holds k i).length = if k = holds.length then holds.length + 1 else holds.length := by unfold putH; split <;> simp
theorem putT_len (ts : List Int) (k n : Nat) (T : Int) : (putT ts k T n).length = if k = n then ts.length + 1 else ts.length := by unfold putT; split <;> simp
theorem gi_append_lt {l m : List Int} {i : Nat} (h : i < l.length) : gi (l ++ m) i = gi l i := by
  unfold gi
  rw [List.getD_eq_getElem?_getD, List.getD_eq_getElem?_getD, List.getElem?_append_left h]
theorem gi_append_end (l : List Int) (v : Int) : gi (l ++ [v]) l.length = v := by
  unfold gi
  rw [List.getD_eq_getElem?_getD, List.getElem?_append_right (Nat.le_refl _), Nat.sub_self]
  rfl
theorem gi_putH {holds : List Int} {k i p : Nat} (hk : k ≤ holds.length) (hp : p < (putH holds k i).length) : gi (putH holds k i) p = if p = k then (i : Int) else gi holds p := by
  rw [putH_len] at hp
  unfold putH
  by_cases h : k = holds.length
  · rw [if_pos h] at hp ⊢
    subst h
    by_cases e : p = holds.length
    · subst e
      rw [gi_append_end, if_pos rfl]
    · rw [gi_append_lt (by omega), if_neg e]
  · rw [if_neg h] at hp ⊢
    rw [gi_set]
    by_cases e : p = k
    · subst e; rw [if_pos ⟨rfl, by omega⟩, if_pos rfl]
    · rw [if_neg (by omega), if_neg e]

theorem s_ends (ss : List (List Int)) (n : Nat) (hn : n ≤ 1000) (hss : ss.length = n) (h3 : ∀ s ∈ ss, s.length ≤ 3) (hs : ∀ j, ∀ k ∈ ss.getD j [], 0 ≤ k ∧ k.toNat < j) {f : List D → Option Out}
    (hf : ∀ i (e : List Int), e.length = n → i < n → f [.int i, intsD e] = some (0, [.int (i + 1 : Nat), intsD (setTo (e.set i i) (ss.getD i []) i)])) (he : ∀ e : List Int, f [.int n, intsD e] = some (720902, [intsD e])) :
    loopL f [.int 0, intsD (List.replicate n 0)] = some (720902, [intsD (endGo ss 0 (List.replicate n 0))]) := by
  generalize hL : loopL _ _ = L
  obtain ⟨o, rfl, hP⟩ := loop_list hL n (fun i v => ∃ e : List Int, v = [.int i, intsD e] ∧ e.length = n ∧ endGo (ss.drop i) i e = endGo ss 0 (List.replicate n 0)) (fun o => o = (720902, [intsD (endGo ss 0 (List.replicate n 0))]))
    ⟨_, rfl, by simp, rfl⟩ (by
    rintro i v hi ⟨e, rfl, hl, h⟩
    left
    rw [List.drop_eq_getElem_cons (by omega), endGo] at h
    have eg : ss.getD i [] = ss[i] := by rw [List.getD_eq_getElem?_getD, List.getElem?_eq_getElem (by omega)]; rfl
    refine ⟨_, hf i e hl hi, _, rfl, by rw [setTo_len]; simpa using hl, ?_⟩
    rw [eg]
    exact h) (by
    rintro v ⟨e, rfl, hl, h⟩
    rw [List.drop_of_length_le (by omega), endGo] at h
    subst h
    exact ⟨_, he _, by simp, rfl⟩)
  rw [hP]

theorem s_compact (c0 : Prg) (cols : List Int) (h0 : Okay c0 cols) (h1 : Okay (trimC c0) cols) : R 20 [c0.d] = some [(compC (trimC c0)).d] := by
  have hT := s_trim c0 cols h0
  rw [r20, e20]
  generalize trimC c0 = c at *
  obtain ⟨hs, hv, hin⟩ := okay_src h1
  have hlen := h1.len
  have hS := s_sources c hlen hin h1.out
  have hsl : (srcOf c).length = c.ins.length := (srcGo_len ..).1
  have h3 : ∀ s ∈ srcOf c, s.length ≤ 3 := src_le _ _ _
  have k0 : at_ c.d.asA 0 = .list (c.ins.map Ins.d) := rfl
  have k1 : at_ c.d.asA 1 = intsD c.types := rfl
  have hfit : (c.ins.length : Int) ≤ 34359738368 := by omega
  have v1 : valueOf c < (c.ins.length : Int) := by omega
  have he0 : D.list (List.replicate c.ins.length (.int 0)) = intsD (List.replicate c.ins.length 0) := by simp [intsD]
  simp [hT, hS, k0, k1, hfit, he0]
  rw [s_ends (srcOf c) c.ins.length hlen.1 hsl h3 hs (by
    intro i e hl hi
    have hm : at_ (rowsI (srcOf c)).asL i = intsD ((srcOf c).getD i []) := by
      have := at_map intsD (srcOf c) i (by omega)
      rw [List.getD_eq_getElem?_getD, List.getElem?_eq_getElem (by omega)]
      exact this
    have hlr : (rowsI (srcOf c)).asL.length = c.ins.length := by simp [rowsI, hsl]
    have h3i : ((srcOf c).getD i []).length ≤ 3 := by
      rw [List.getD_eq_getElem?_getD, List.getElem?_eq_getElem (by omega)]
      exact h3 _ (List.getElem_mem (by omega))
    have hsi := hs i
    generalize (srcOf c).getD i [] = ks at *
    simp [hm, hlr, hl, hi]
    generalize hL : loopL _ _ = L
    have hA := loop_to hL ks.length (fun k => [.int k, intsD (setTo (e.set i i) (ks.take k) i)]) (1245192, [.bool false, .int ks.length, intsD (setTo (e.set i i) ks i)]) (by simp [setTo, intsD, List.map_set]) (by
      intro k hk
      have eg := gi_at hk
      have hr := hsi _ (List.getElem_mem hk)
      have ht : setTo (e.set i i) (ks.take (k + 1)) i = (setTo (e.set i i) (ks.take k) i).set (ks[k]).toNat i := by
        rw [List.take_succ_eq_append_getElem hk]
        simp only [setTo, List.foldl_append, List.foldl_cons, List.foldl_nil]
      have hr3 : ks[k] < c.ins.length := by omega
      simp [hk, eg, hr.1, hr3, setTo_len, hl, wrap_nat (n := k) (by omega), ht, intsD, List.map_set]) (by simp) (by simp)
    clear hL
    subst hA
    simp [wrap_nat (n := i) (by omega)]) (by
    intro e
    simp [rowsI, hsl])]
  have hel : (endGo (srcOf c) 0 (List.replicate c.ins.length 0)).length = c.ins.length := by rw [endGo_len]; simp
  have hE : ((endGo (srcOf c) 0 (List.replicate c.ins.length 0)).map D.int).set (valueOf c).toNat (.int c.ins.length) = (endOf c).map D.int := by simp [endOf, List.map_set]
  have hEl : (endOf c).length = c.ins.length := by simp [endOf, hel]
  simp [hel, hv.1, v1, hE, hEl]
  have hR : cRes c = cGo (endOf c) c.types c.ins (srcOf c) 0 [] (List.replicate c.ins.length 0) [] := rfl
  have hC : (compC c).d = .agg [.list ((cRes c).1.map Ins.d), intsD (cRes c).2.1, .int (gi (cRes c).2.2 (valueOf c).toNat)] := rfl
  rw [hC]
  generalize endOf c = en at *
  generalize cRes c = res at *
  generalize hL : loopL _ _ = L
  obtain ⟨o, rfl, hP⟩ := loop_list hL c.ins.length
    (fun i v => ∃ (acc : List Ins) (holds place ts : List Int), v = [.int i, intsD holds, .list (acc.map Ins.d), intsD ts, intsD place] ∧ acc.length = i ∧ holds.length = ts.length ∧ holds.length ≤ i ∧ place.length = c.ins.length ∧
      (∀ p, p < holds.length → 0 ≤ gi holds p ∧ (gi holds p).toNat < c.ins.length) ∧ acc ++ (cGo en c.types (c.ins.drop i) ((srcOf c).drop i) i holds place ts).1 = res.1 ∧ (cGo en c.types (c.ins.drop i) ((srcOf c).drop i) i holds place ts).2 = res.2)
    (fun o => o = (2555914, [.list (res.1.map Ins.d), intsD res.2.1, intsD res.2.2]) ∧ res.2.2.length = c.ins.length)
    ⟨[], [], List.replicate c.ins.length 0, [], rfl, rfl, rfl, by simp, by simp, by simp, by rw [hR]; rfl, by rw [hR]; rfl⟩ (by
    rintro i v hi ⟨acc, holds, place, ts, rfl, ha, ht, hh, hp, hb, g1, g2⟩
    left
    have hi' : i < (srcOf c).length := by omega
    rw [List.drop_eq_getElem_cons hi, List.drop_eq_getElem_cons hi', cGo] at g1 g2
    simp only at g1 g2
    have hm := at_map Ins.d c.ins i hi
    have hms : at_ (rowsI (srcOf c)).asL i = intsD (srcOf c)[i] := at_map intsD (srcOf c) i hi'
    have hlr : (rowsI (srcOf c)).asL.length = c.ins.length := by simp [rowsI, hsl]
    have hk3 := h3 _ (List.getElem_mem hi')
    have hsi := hs i
    have eg : (srcOf c).getD i [] = (srcOf c)[i] := by rw [List.getD_eq_getElem?_getD, List.getElem?_eq_getElem hi']; rfl
    rw [eg] at hsi
    generalize (srcOf c)[i] = ks at *
    obtain ⟨_, q2⟩ := hin _ (List.getElem_mem hi)
    have hx0 : at_ (c.ins[i]).d.asA 0 = .int c.ins[i].op := rfl
    have hx1 : at_ (c.ins[i]).d.asA 1 = .int c.ins[i].to := rfl
    have hx5 : at_ (c.ins[i]).d.asA 5 = .int c.ins[i].n := rfl
    have hx6 : at_ (c.ins[i]).d.asA 6 = .str c.ins[i].s := rfl
    have kt := q2 _ (List.mem_cons_self ..)
    have kt2 : c.ins[i].to < c.types.length := by omega
    have hargl : (ks.map fun k => gi place k.toNat).length = ks.length := by simp
    have hargs : ∀ k (hk : k < ks.length), gi (ks.map fun k => gi place k.toNat) k = gi place ks[k].toNat := by
      intro k hk
      rw [gi_at (by simpa using hk), List.getElem_map]
    generalize (ks.map fun k => gi place k.toNat) = args at *
    have hout : ∀ k, ks.length ≤ k → gi args k = 0 := by
      intro k hk
      unfold gi
      rw [List.getD_eq_getElem?_getD, List.getElem?_eq_none (by omega)]
      rfl
    generalize hK : regOf en i (gi c.types c.ins[i].to.toNat) holds ts = K at *
    have hKle : K ≤ holds.length := by rw [← hK]; exact regOf_le ..
    refine ⟨[.int (i + 1 : Nat), intsD (putH holds K i), .list ((acc ++ [mkIns c.ins[i] args K]).map Ins.d), intsD (putT ts K (gi c.types c.ins[i].to.toNat) holds.length), intsD (place.set i K)], ?_,
      acc ++ [mkIns c.ins[i] args K], putH holds K i, place.set i K, putT ts K (gi c.types c.ins[i].to.toNat) holds.length, rfl, by simp [ha], by rw [putH_len, putT_len]; split <;> omega, by rw [putH_len]; split <;> omega, by simpa using hp, ?_, by simpa using g1, g2⟩
    · simp [hi, hm, hms, hlr]
      generalize hL : loopL _ _ = L
      have hA := loop_to hL ks.length (fun k => [.int k, .int (if 0 < k then gi args 0 else 0), .int (if 1 < k then gi args 1 else 0), .int (if 2 < k then gi args 2 else 0)]) (3211276, [.bool false, .int ks.length, .int (gi args 0), .int (gi args 1), .int (gi args 2)]) (by simp) (by
        intro k hk
        have e := gi_at hk
        have hr := hsi _ (List.getElem_mem hk)
        have hr2 : ks[k] < place.length := by omega
        have hg := at_ints (l := place) (i := ks[k].toNat) (by omega)
        rw [← hargs k hk] at hg
        have hk' : (k : Int) < 3 := by omega
        have hk4 : k = 0 ∨ k = 1 ∨ k = 2 := by omega
        simp [hk, hk', e, hr.1, hr2, hg, wrap_nat (n := k) (by omega)]
        rcases hk4 with rfl | rfl | rfl <;> simp) (by
        have a0 := hout 0
        have a1 := hout 1
        have a2 := hout 2
        have hk4 : ks.length = 0 ∨ ks.length = 1 ∨ ks.length = 2 ∨ ks.length = 3 := by omega
        rcases hk4 with e | e | e | e <;> rw [e] at a0 a1 a2 <;> simp at a0 a1 a2 <;> simp [e, *]) (by simp)
      clear hL
      subst hA
      simp
      generalize hL : loopL _ _ = L
      have hB := loop_to hL K (fun k => [.int k]) (3866638, [.bool false, .bool (decide (K < holds.length)), .bool (decide (K < holds.length)), .int K, .int K]) (by simp) (by
        intro k hk
        have hk2 : k < holds.length := by omega
        have b := hb k hk2
        have b2 : gi holds k < c.ins.length := by omega
        have hb4 := regOf_before (hK.symm ▸ hk : k < regOf en i (gi c.types c.ins[i].to.toNat) holds ts)
        have hk5 : k < ts.length := by omega
        by_cases hE : (i : Int) < gi en (gi holds k).toNat
        · simp [hk2, b.1, b2, hE, hEl, wrap_nat (n := k) (by omega)]
        · simp [hE] at hb4
          simp [hk2, b.1, b2, hE, hEl, hk5, hx1, kt.1, kt2, hb4, wrap_nat (n := k) (by omega)]) (by
        by_cases hk2 : K < holds.length
        · have b := hb K hk2
          have b2 : gi holds K < c.ins.length := by omega
          have hk5 : K < ts.length := by omega
          have hb4 := regOf_at (hK.symm ▸ hk2 : regOf en i (gi c.types c.ins[i].to.toNat) holds ts < holds.length)
          rw [hK] at hb4
          simp at hb4
          have hE : ¬ (i : Int) < gi en (gi holds K).toNat := by omega
          simp [hk2, b.1, b2, hE, hEl, hk5, hx1, kt.1, kt2, hb4]
        · simp [hk2]) (by simp)
      clear hL
      subst hB
      have f1 : (holds.length : Int) + 1 ≤ 34359738368 := by omega
      have f2 : (ts.length : Int) + 1 ≤ 34359738368 := by omega
      have f3 : (acc.length : Int) + 1 ≤ 34359738368 := by omega
      have f4 : i < place.length := by omega
      have gt := at_ints (l := c.types) (i := c.ins[i].to.toNat) (by omega)
      by_cases hk2 : K = holds.length
      · simp [hk2, f1, f2, f3, hx0, hx1, hx5, hx6, kt.1, kt2, f4, gt, wrap_nat (n := i) (by omega), putH, putT, intsD, List.map_set, mkIns, Ins.d]
      · have hk3 : K < holds.length := by omega
        have hk4 : ¬ (K : Int) = holds.length := by omega
        simp [hk2, hk3, hk4, f1, f2, f3, hx0, hx1, hx5, hx6, kt.1, kt2, f4, gt, wrap_nat (n := i) (by omega), putH, putT, intsD, List.map_set, mkIns, Ins.d]
    · intro p hp'
      rw [gi_putH hKle hp']
      split
      · omega
      · rename_i hne
        rw [putH_len] at hp'
        refine hb p ?_
        split at hp' <;> omega) (by
    rintro v ⟨acc, holds, place, ts, rfl, ha, ht, hh, hp, hb, g1, g2⟩
    rw [List.drop_length, cGo] at g1 g2
    simp only [List.append_nil] at g1 g2
    obtain ⟨r1, r2, r3⟩ := res
    simp only [Prod.mk.injEq] at g1 g2
    obtain ⟨rfl, rfl⟩ := g2
    subst g1
    exact ⟨_, by simp, by simp, rfl, hp⟩)
  obtain ⟨rfl, hpl⟩ := hP
  have v2 : valueOf c < (res.2.2.length : Int) := by omega
  have gv2 := at_ints (l := res.2.2) (i := (valueOf c).toNat) (by omega)
  simp [hv.1, v2, gv2]
end Go.Proofs.YtlbckmllpciglaaDoor
