/- The framework, part 4: SyScope, SyCall, SyCall2, SyEff, SyTab, SyNest, SyEff2 -/
import Derived.Test.YtlbckmllpciglaaDoorF3
set_option linter.unusedVariables false
set_option linter.unusedSimpArgs false
set_option linter.all false

/- What is known stays so when more values are named. -/
namespace Sy
open Go Go.RowKit

theorem at_append {ρ l : List D} {i : Nat} (h : i < ρ.length) : at_ (ρ ++ l) i = at_ ρ i := by
  simp [at_, List.getElem?_append_left h]
theorem Ex.ev_append {G : Nat → D} {ρ l : List D} : ∀ {e : Ex}, e.sc ρ.length = true → e.ev G (ρ ++ l) = e.ev G ρ
  | .var i, h => by simp only [Ex.sc, decide_eq_true_eq] at h; exact at_append h
  | .int _, _ | .bool _, _ | .str _, _ | .lnil, _ | .nil, _ | .glob _, _ => rfl
  | .un o a, h => by simp only [Ex.sc] at h; simp only [Ex.ev, Ex.ev_append h]
  | .bin o a b, h => by simp only [Ex.sc, Bool.and_eq_true] at h; simp only [Ex.ev, Ex.ev_append h.1, Ex.ev_append h.2]
  | .tri o a b c, h => by simp only [Ex.sc, Bool.and_eq_true] at h; simp only [Ex.ev, Ex.ev_append h.1.1, Ex.ev_append h.1.2, Ex.ev_append h.2]
  | .fn f a b, h => by simp only [Ex.sc, Bool.and_eq_true] at h; simp only [Ex.ev, Ex.ev_append h.1, Ex.ev_append h.2]
theorem evs_append {G : Nat → D} {ρ l : List D} : ∀ {es : List Ex}, scs ρ.length es = true → evs G (ρ ++ l) es = evs G ρ es
  | [], _ => rfl
  | e :: es, h => by
    simp only [scs, Bool.and_eq_true] at h
    simp only [evs, Ex.ev_append h.1, evs_append h.2]
theorem pcOK_append' {G : Nat → D} {ρ l : List D} : ∀ {pc : PC}, pcSc ρ.length pc = true → pcOK G (ρ ++ l) pc = pcOK G ρ pc
  | [], _ => rfl
  | (e, b) :: pc, h => by
    simp only [pcSc, Bool.and_eq_true] at h
    simp only [pcOK, Ex.ev_append h.1, pcOK_append' h.2]

section
variable {C : Ctx} {ρ l : List D} {β : Be} {w : World} {ok : Nat → Prop}
mutual
theorem RepSc.append : ∀ {v : SV} {k : K} {cs : List Value}, v.sc ρ.length = true → RepSc C ρ β w ok v k cs → RepSc C (ρ ++ l) β w ok v k cs
  | .dat _ e, _, _, hs, h => ⟨h.1, by rw [Ex.ev_append (by simpa [SV.sc] using hs)]; exact h.2⟩
  | .nils _, _, _, _, h => h
  | .sli _ _ _, _, _, _, h => h
  | .bptr _ _ _, _, _, _, h => h
  | .agg _ l', _, _, hs, ⟨hk, fs, hf, hl⟩ => ⟨hk, fs, hf, RepScs.append (by simpa [SV.sc] using hs) hl⟩
  | .nil0, _, _, _, h | .nilp, _, _, _, h | .eptr .., _, _, _, h | .tup _, _, _, _, h | .fnc .., _, _, _, h | .tab .., _, _, _, h | .tptr .., _, _, _, h | .alt .., _, _, _, h | .nilq _, _, _, _, h | .nrow .., _, _, _, h | .gd .., _, _, _, h | .junk, _, _, _, h => h.elim
theorem RepScs.append : ∀ {vs : List SV} {fs : List Nat} {cs : List Value}, SV.scs ρ.length vs = true → RepScs C ρ β w ok vs fs cs → RepScs C (ρ ++ l) β w ok vs fs cs
  | [], _, _, _, h => h
  | _ :: _, _, _, hs, ⟨t, ts, c1, c2, h1, h2, h3, h4⟩ => by
    simp only [SV.scs, Bool.and_eq_true] at hs
    exact ⟨t, ts, c1, c2, h1, h2, RepSc.append hs.1 h3, RepScs.append hs.2 h4⟩
end
mutual
theorem RepSV.append : ∀ {v : SV} {x : Value}, v.sc ρ.length = true → RepSV C ρ β w ok v x → RepSV C (ρ ++ l) β w ok v x
  | .dat _ e, _, hs, h => by
    have := Ex.ev_append (G := C.G) (l := l) (e := e) (ρ := ρ) (by simpa [SV.sc] using hs)
    unfold RepSV at h ⊢
    rw [this]; exact h
  | .nils _, _, _, h => h
  | .nil0, _, _, h => h
  | .nilp, _, _, h => h
  | .sli _ _ _, _, _, h => h
  | .bptr _ _ _, _, _, h => h
  | .eptr n ver i p t, _, hs, h => by
    have := Ex.ev_append (G := C.G) (l := l) (e := i) (ρ := ρ) (by simpa [SV.sc] using hs)
    unfold RepSV at h ⊢
    rw [this]; exact h
  | .agg _ l', _, hs, ⟨cs, fs, hf, hl, hv⟩ => ⟨cs, fs, hf, RepScs.append (by simpa [SV.sc] using hs) hl, hv⟩
  | .tup _, _, hs, ⟨vs, h1, h2⟩ => ⟨vs, h1, RepSVs.append (by simpa [SV.sc] using hs) h2⟩
  | .fnc .., _, hs, ⟨v1, v2, h1, h2, h3⟩ => by
    simp only [SV.sc, Bool.and_eq_true] at hs
    exact ⟨v1, v2, h1, RepSVs.append hs.1 h2, RepSVs.append hs.2 h3⟩
  | .tab .., _, hs, ⟨b, cap, cs, h1, h2, h3, h4, h5⟩ => ⟨b, cap, cs, h1, h2, h3, RepSVs.append (by simpa [SV.sc] using hs) h4, h5⟩
  | .tptr _ i _, _, hs, ⟨b, cs, h1, h2, h3, h4, h5, h6, h7, h8, h9⟩ => by
    simp only [SV.sc, Bool.and_eq_true] at hs
    have := Ex.ev_append (G := C.G) (l := l) (e := i) (ρ := ρ) hs.1
    refine ⟨b, cs, ?_, h2, h3, RepSVs.append hs.2 h4, h5, h6, h7, ?_, ?_⟩ <;> rw [this] <;> assumption
  | .alt i _, _, hs, ⟨cs, h1, h2, h3⟩ => by
    simp only [SV.sc, Bool.and_eq_true] at hs
    have := Ex.ev_append (G := C.G) (l := l) (e := i) (ρ := ρ) hs.1
    refine ⟨cs, RepSVs.append hs.2 h1, ?_, ?_⟩ <;> rw [this] <;> assumption
  | .gd pc x, v, hs, h => by
    simp only [SV.sc, Bool.and_eq_true] at hs
    unfold RepSV at h ⊢
    rw [pcOK_append' hs.1]
    split
    · rename_i hp; rw [if_pos hp] at h; exact RepSV.append hs.2 h
    · rename_i hp; rw [if_neg hp] at h; exact h
  | .nilq e, _, hs, h => by
    have := Ex.ev_append (G := C.G) (l := l) (e := e) (ρ := ρ) (by simpa [SV.sc] using hs)
    unfold RepSV at h ⊢
    rw [this]; exact h
  | .nrow n rv i x, _, hs, h => by
    have := Ex.ev_append (G := C.G) (l := l) (e := i) (ρ := ρ) (by simpa [SV.sc] using hs)
    unfold RepSV at h ⊢
    rw [this]; exact h
  | .junk, _, _, _ => trivial
theorem RepSVs.append : ∀ {vs : List SV} {xs : List Value}, SV.scs ρ.length vs = true → RepSVs C ρ β w ok vs xs → RepSVs C (ρ ++ l) β w ok vs xs
  | [], _, _, h => h
  | _ :: _, _, hs, ⟨v, r, h1, h2, h3⟩ => by
    simp only [SV.scs, Bool.and_eq_true] at hs
    exact ⟨v, r, h1, RepSV.append hs.1 h2, RepSVs.append hs.2 h3⟩
end
theorem RepOb.append {w0 : World} {n : Nat} {o : Ob} (hs : o.sc ρ.length = true) (h : RepOb C w0 ρ β w ok n o) : RepOb C w0 (ρ ++ l) β w ok n o := by
  cases o with
  | box t v =>
    obtain ⟨h1, h2, cs, E, h3, h4⟩ := h
    exact ⟨h1, h2, cs, E, h3, RepSc.append (by simpa [Ob.sc] using hs) h4⟩
  | arr e c ver =>
    obtain ⟨h1, h2, L, cs, h3, h4⟩ := h
    exact ⟨h1, h2, L, cs, by rw [Ex.ev_append (by simpa [Ob.sc] using hs)]; exact h3, h4⟩
  | fbox t c =>
    obtain ⟨h1, h2, h3, cs, h4, h5⟩ := h
    exact ⟨h1, h2, h3, cs, by rw [Ex.ev_append (by simpa [Ob.sc] using hs)]; exact h4, h5⟩
  | farr e c ver =>
    obtain ⟨h1, h2, h3, h4⟩ := h
    exact ⟨h1, h2, by rw [Ex.ev_append (by simpa [Ob.sc] using hs)]; exact h3, h4⟩
  | narr e f c ver rv hole =>
    obtain ⟨h1, h2, L, cs, rows, h3, h4⟩ := h
    simp only [Ob.sc, Bool.and_eq_true] at hs
    have hh : ∀ j, holeAt C (ρ ++ l) j hole = holeAt C ρ j hole := by
      intro j
      cases hole with
      | none => rfl
      | some y =>
        obtain ⟨i, y⟩ := y
        simp only [Bool.and_eq_true] at hs
        simp only [holeAt, Ex.ev_append hs.2.1, Ex.ev_append hs.2.2]
    refine ⟨h1, h2, L, cs, rows, by rw [Ex.ev_append hs.1]; exact h3, ?_⟩
    simp only [hh]
    exact h4
theorem slSc_look {n : Nat} : ∀ {sl : List (Nat × SV)} {t : Nat} {v : SV}, slSc n sl = true → look sl t = some v → v.sc n = true
  | [], _, _, _, h => by simp [look] at h
  | (i, x) :: sl, t, v, hs, h => by
    simp only [slSc, Bool.and_eq_true] at hs
    simp only [look] at h
    split at h
    · simp only [Option.some.injEq] at h; subst h; exact hs.1
    · exact slSc_look hs.2 h
theorem obSc_look {n : Nat} : ∀ {ob : List (Nat × PC × Ob)} {t : Nat} {q : PC} {v : Ob}, obSc n ob = true → look ob t = some (q, v) → pcSc n q = true ∧ v.sc n = true
  | [], _, _, _, _, h => by simp [look] at h
  | (i, q', x) :: sl, t, q, v, hs, h => by
    simp only [obSc, Bool.and_eq_true] at hs
    simp only [look] at h
    split at h
    · simp only [Option.some.injEq, Prod.mk.injEq] at h; obtain ⟨rfl, rfl⟩ := h; exact hs.1
    · exact obSc_look hs.2 h

variable {w0 : World} {ok0 : Nat → Prop} {s : S} {a : Act}
theorem Mut_append {b : Nat} (hs : s.sc = true) (hn : s.n = ρ.length) : Mut C (ρ ++ l) s β b ↔ Mut C ρ s β b := by
  simp only [S.sc, Bool.and_eq_true, hn] at hs
  refine ⟨?_, ?_⟩ <;> rintro ⟨n, q, o, h1, h2, h3, h4⟩
  · exact ⟨n, q, o, h1, by rw [← pcOK_append' (l := l) (obSc_look hs.2 h1).1]; exact h2, h3, h4⟩
  · exact ⟨n, q, o, h1, by rw [pcOK_append' (l := l) (obSc_look hs.2 h1).1]; exact h2, h3, h4⟩
theorem okk_append (hs : s.sc = true) (hn : s.n = ρ.length) : okk C w0 ok0 (ρ ++ l) s β w = okk C w0 ok0 ρ s β w := by
  funext b
  unfold okk
  rw [Mut_append hs hn]
/-- More values are named. -/
theorem SimB.append (h : SimB C w0 ok0 ρ s β a w) (hs : s.sc = true) (hn : s.n = ρ.length) : SimB C w0 ok0 (ρ ++ l) s β a w := by
  have hs' := hs
  simp only [S.sc, Bool.and_eq_true, hn] at hs'
  have hq : ∀ {n q o}, look s.ob n = some (q, o) → pcOK C.G (ρ ++ l) q = pcOK C.G ρ q := fun hl => pcOK_append' (obSc_look hs'.2 hl).1
  refine ⟨h.below, h.size, h.dfr, ?_, ?_, ?_, ?_⟩
  · intro t v hv
    rw [okk_append hs hn]
    exact RepSV.append (slSc_look hs'.1 hv) (h.sl t v hv)
  · intro n q o hn' hq'
    rw [okk_append hs hn]
    rw [hq hn'] at hq'
    exact RepOb.append (obSc_look hs'.2 hn').2 (h.ob n q o hn' hq')
  · intro n m q q' o o' b h1 h2 h3 h4
    rw [hq h1] at h3
    rw [hq h2] at h4
    exact h.sep n m q q' o o' b h1 h2 h3 h4
  · intro n q o b h1 h2
    rw [hq h1] at h2
    exact h.rng n q o b h1 h2
end
end Sy

/- Calls. -/
namespace Sy
open Go Go.RowKit

/-- The package-level variables hold what the tables say. -/
def GOK (C : Ctx) (w : World) (ok : Nat → Prop) : Prop := ∀ g t, C.gk g = some t → RepV C w ok (.ptr t) (.ptr (C.G g)) (.pointer (some ⟨g, 0, none⟩))

/-- The values that a function hands back. -/
inductive RepRs (C : Ctx) (w : World) (okr : Nat → Prop) (base : Nat) : List K → List Bool → List D → List Value → Prop
  | nil {own} : RepRs C w okr base [] own [] []
  | dat {k ks own d ds v vs} (h : own.headD false = false) (hv : RepV C w okr k d v) (hl : RepRs C w okr base ks own.tail ds vs) : RepRs C w okr base (k :: ks) own (d :: ds) (v :: vs)
  | own {e ks own l ds v vs cs} (h : own.headD false = true) (hr : w.ownsRow base e (C.tsz e) v l.length cs) (hc : RepL C w okr (C.kd e) l cs) (hm : l.length ≤ maxN) (hb : ∀ b, v.ownBlock = some b → ¬ okr b)
      (hl : RepRs C w okr base ks own.tail ds vs) : RepRs C w okr base (.slice e :: ks) own (.list l :: ds) (v :: vs)

def retOf (vs : List Value) : Value := match vs with
  | [v] => v
  | vs => .tuple vs.toArray
/-- How a call ends. -/
def Ends (C : Ctx) (sg : Sig) (ok : Nat → Prop) (w : World) (rs : List D) (e : Ending) (w' : World) : Prop :=
  ∃ okr vs, e = .returned (retOf vs) ∧ Below w.heap.size w w' ∧ (∀ b, okr b → ok b ∨ (w.heap.size ≤ b ∧ b < w'.heap.size)) ∧ RepRs C w' okr w.heap.size sg.results sg.own rs vs
/-- A function does what its text says. -/
def Sound (C : Ctx) (f : Nat) (F : List D → Option (List D)) : Prop :=
  ∀ sg, C.sigs f = some sg → ∀ ds rs, F ds = some rs → ∀ (w : World) (ok : Nat → Prop) (vs : List Value), GOK C w ok → (∀ b, ok b → b < w.heap.size) → RepVs C w ok sg.params ds vs → Calls C.P f vs.toArray w (Ends C sg ok w rs)

section
variable {C : Ctx}
theorem GOK.keep {w w' : World} {ok ok' : Nat → Prop} (h : GOK C w ok) (ho : ∀ b, ok b → ok' b) (hw : ∀ b, ok b → w'.heap[b]? = w.heap[b]?) : GOK C w' ok' := fun g t hg => (h g t hg).keep ho hw

theorem fl_fields {n t : Nat} {fs : List Nat} (h : fl C (n + 1) (.struct t) = true) (hf : C.fields t = some fs) : ∀ f ∈ fs, fl C n (C.kd f) = true := by
  simp only [fl, hf, List.all_eq_true] at h
  exact h
mutual
/-- Flat data lies in no other place. -/
theorem RepC.flat {w w' : World} {ok ok' : Nat → Prop} {k : K} {d : D} {cs : List Value} : ∀ {n : Nat}, fl C n k = true → RepC C w ok k d cs → RepC C w' ok' k d cs
  | 0, h, _ => by simp [fl] at h
  | n + 1, _, .int h => .int h
  | n + 1, _, .bool => .bool
  | n + 1, _, .str h => .str h
  | n + 1, h, .nils => by simp [fl] at h
  | n + 1, h, .slice .. => by simp [fl] at h
  | n + 1, h, .struct hf hF => .struct hf (RepF.flat (fl_fields h hf) hF)
  | n + 1, h, .arr hf hn hl => .arr hf hn (RepL.flat (by simpa only [fl, hf] using h) hl)
  | n + 1, h, .ptr .. => by simp [fl] at h
  | n + 1, h, .nilp => by simp [fl] at h
  | n + 1, h, .func .. => by simp [fl] at h
theorem RepL.flat {w w' : World} {ok ok' : Nat → Prop} {k : K} {l : List D} {cs : List Value} : ∀ {n : Nat}, fl C n k = true → RepL C w ok k l cs → RepL C w' ok' k l cs
  | _, _, .nil => .nil
  | _, h, .cons hc hl => .cons (RepC.flat h hc) (RepL.flat h hl)
theorem RepF.flat {w w' : World} {ok ok' : Nat → Prop} {ts : List Nat} {l : List D} {cs : List Value} : ∀ {n : Nat}, (∀ t ∈ ts, fl C n (C.kd t) = true) → RepF C w ok ts l cs → RepF C w' ok' ts l cs
  | _, _, .nil => .nil
  | _, h, .cons hc hl => .cons (RepC.flat (h _ (List.mem_cons_self ..)) hc) (RepF.flat (fun t ht => h t (List.mem_cons_of_mem _ ht)) hl)
end
theorem RepRs.flat {w : World} {okr okr' : Nat → Prop} {base : Nat} {ks : List K} {own : List Bool} {rs : List D} {vs : List Value} (h : RepRs C w okr base ks own rs vs) (hf : freshRes C ks own = true) (hb : ∀ b, base ≤ b → ¬ okr' b) : RepRs C w okr' base ks own rs vs := by
  induction h with
  | nil => exact .nil
  | dat h1 hv hl ih =>
    simp only [freshRes, h1, Bool.false_and, Bool.or_false, Bool.and_eq_true] at hf
    obtain ⟨cs, h2, h3⟩ := hv
    exact .dat h1 ⟨cs, RepC.flat (n := 12) hf.1 h2, h3⟩ (ih hf.2)
  | own h1 hr hc hm hbl hl ih =>
    simp only [freshRes, h1, Bool.true_and, Bool.and_eq_true, Bool.or_eq_true] at hf
    refine .own h1 hr (RepL.flat (n := 12) ?_ hc) hm (fun b hb' => hb b (hr.lt b hb').1) (ih hf.2)
    rcases hf.1 with h2 | h2
    · simp [Ctx.flat, fl] at h2
    · exact h2
theorem RepRs.wide {w : World} {okr okr' : Nat → Prop} {base : Nat} {ks : List K} {own : List Bool} {rs : List D} {vs : List Value} (h : RepRs C w okr base ks own rs vs) (ho : ∀ b, okr b → okr' b) (hb : ∀ b, base ≤ b → b < w.heap.size → okr' b) : RepRs C w okr' base ks [] rs vs := by
  induction h with
  | nil => exact .nil
  | dat h1 hv hl ih => exact .dat rfl (hv.keep ho fun _ _ => rfl) ih
  | own h1 hr hc hm hbl hl ih => exact .dat rfl (arr_data hr hc hm ho fun b hb' => hb b (hr.lt b hb').1 (hr.lt b hb').2) ih
theorem RepRs.len {w : World} {okr : Nat → Prop} {base : Nat} {ks : List K} {own : List Bool} {rs : List D} {vs : List Value} (h : RepRs C w okr base ks own rs vs) : rs.length = ks.length ∧ vs.length = ks.length := by
  induction h with
  | nil => exact ⟨rfl, rfl⟩
  | dat _ _ _ ih => simp [ih]
  | own _ _ _ _ _ _ ih => simp [ih]

variable {w0 : World} {ok0 : Nat → Prop} {ρ : List D} {s : S} {β : Be} {a : Act} {w : World} {pc : PC} {ob : Obs}

/-- What is known of the results. -/
theorem resVs_ok {w' : World} {okr : Nat → Prop} {base dst n : Nat} {ks : List K} {own : List Bool} {rs : List D} {vs : List Value} (h : RepRs C w' okr base ks own rs vs) : ∀ {i : Nat} {svs : List SV} {ups : List (Nat × Ob)}, resVs C dst n ks own i = some (svs, ups) →
    (∀ j d, rs[j]? = some d → at_ ρ (n + i + j) = d) →
    (ups = [] ∧ ∀ β okT, (∀ b, okr b → okT b) → RepSVs C ρ β w' okT svs vs) ∨
    (∃ m e x l cs v, ups = [(m, .arr e x 0)] ∧ inTab C e = true ∧ x.ev C.G ρ = .list l ∧ w'.ownsRow base e (C.tsz e) v l.length cs ∧ RepL C w' okr (C.kd e) l cs ∧ l.length ≤ maxN ∧ (∀ b, v.ownBlock = some b → ¬ okr b) ∧
      ∀ β okT, Be.vl β m 0 = v → (∀ b, okr b → okT b) → RepSVs C ρ β w' okT svs vs) ∨ 2 ≤ ups.length := by
  induction h with
  | nil =>
    intro i svs ups hr _
    simp only [resVs, Option.some.injEq, Prod.mk.injEq] at hr
    obtain ⟨rfl, rfl⟩ := hr
    exact .inl ⟨rfl, fun _ _ _ => rfl⟩
  | @dat k ks own d ds v vs h1 hv hl ih =>
    intro i svs ups hr henv
    simp only [resVs] at hr
    cases ht : resVs C dst n ks own.tail (i + 1) with
    | none => simp [ht] at hr
    | some y =>
      obtain ⟨svs', ups'⟩ := y
      simp only [ht, h1, Bool.false_eq_true, if_false, Option.some.injEq, Prod.mk.injEq] at hr
      obtain ⟨rfl, rfl⟩ := hr
      have hd : ∀ β okT, (∀ b, okr b → okT b) → RepSV C ρ β w' okT (.dat k (.var (n + i))) v := fun β okT ho => by
        have := henv 0 d rfl
        simp only [RepSV, Ex.ev]
        rw [Nat.add_zero] at this
        rw [this]
        exact hv.keep ho fun _ _ => rfl
      rcases ih ht (fun j d hj => by have := henv (j + 1) d (by simpa using hj); rw [← this]; congr 1; omega) with ⟨h2, h3⟩ | ⟨m, e, x, l, cs, v1, h2, h3, h4, h5, h6, h7, h8, h9⟩ | h2
      · exact .inl ⟨h2, fun β okT ho => ⟨_, _, rfl, hd β okT ho, h3 β okT ho⟩⟩
      · exact .inr (.inl ⟨m, e, x, l, cs, v1, h2, h3, h4, h5, h6, h7, h8, fun β okT hv1 ho => ⟨_, _, rfl, hd β okT ho, h9 β okT hv1 ho⟩⟩)
      · exact .inr (.inr h2)
  | @own e ks own l ds v vs cs h1 hr' hc hm hbl hl ih =>
    intro i svs ups hr henv
    simp only [resVs] at hr
    cases ht : resVs C dst n ks own.tail (i + 1) with
    | none => simp [ht] at hr
    | some y =>
      obtain ⟨svs', ups'⟩ := y
      simp only [ht, h1, if_true] at hr
      split at hr
      · rename_i he
        simp only [Option.some.injEq, Prod.mk.injEq] at hr
        obtain ⟨rfl, rfl⟩ := hr
        obtain ⟨a', c', hv'⟩ := ownsRow_slice hr'
        rcases ih ht (fun j d hj => by have := henv (j + 1) d (by simpa using hj); rw [← this]; congr 1; omega) with ⟨h2, h3⟩ | ⟨m, e', x, l', cs', v1, h2, h3⟩ | h2
        · subst h2
          refine .inr (.inl ⟨8 * dst + i, e, .var (n + i), l, cs, v, rfl, he, ?_, hr', hc, hm, hbl, fun β okT hv1 ho => ⟨_, _, rfl, ⟨hv1.symm, a', l.length, c', by rw [hv1, hv']⟩, h3 β okT ho⟩⟩)
          have := henv 0 _ rfl
          simpa [Ex.ev] using this
        · subst h2; exact .inr (.inr (by simp))
        · exact .inr (.inr (by simp; omega))
      · simp at hr

theorem oneV_ok {β : Be} {w : World} {ok : Nat → Prop} {svs : List SV} {vs : List Value} (h : RepSVs C ρ β w ok svs vs) : RepSV C ρ β w ok (oneV svs) (retOf vs) := by
  match svs, h with
  | [], h => simp only [RepSVs] at h; subst h; exact ⟨[], rfl, rfl⟩
  | [x], ⟨v, r, h1, h2, h3⟩ => simp only [RepSVs] at h3; subst h3; subst h1; exact h2
  | x :: y :: l, h =>
    obtain ⟨v, r, h1, h2, v2, r2, h3, h4, h5⟩ := h
    subst h3; subst h1
    exact ⟨_, rfl, v, _, rfl, h2, v2, r2, rfl, h4, h5⟩

/-- Behind a call. -/
theorem back_ok (h : SimB C w0 ok0 ρ s β a w) (hpc : pcOK C.G ρ pc = true) {w' : World} {okr : Nat → Prop} (hb : Below w.heap.size w w') (ho : ∀ b, okr b → okk C w0 ok0 ρ s β w b ∨ (w.heap.size ≤ b ∧ b < w'.heap.size)) {ks : List K} {own : List Bool} {rs : List D} {vs : List Value}
    (hR : RepRs C w' okr w.heap.size ks own rs vs) {dst n : Nat} {svs : List SV} {ups : List (Nat × Ob)} (hr : resVs C dst n ks own 0 = some (svs, ups)) (henv : ∀ j d, rs[j]? = some d → at_ ρ (n + j) = d) (h1 : ¬ 1 < ups.length)
    (hu : ∀ x ∈ ups, slFree x.1 s.sl = true ∧ obFree x.1 s.ob = true) :
    ∃ β', SimB C w0 ok0 ρ (s.upd pc ups) β' a w' ∧ RepSVs C ρ β' w' (okk C w0 ok0 ρ (s.upd pc ups) β' w') svs vs := by
  have hs := h.below.size
  have hmut : ∀ b, w.heap.size ≤ b → ¬ Mut C ρ s β b := by
    rintro b hb' ⟨n, q, o, g1, g2, g3, g4⟩
    have := (h.rng n q o b g1 g2 g3 g4).2
    omega
  have hokx : ∀ b, okk C w0 ok0 ρ s β w b → okk C w0 ok0 ρ s β w' b := by
    rintro b (hk | ⟨g1, g2, g3⟩)
    · exact .inl hk
    · exact .inr ⟨g1, Nat.lt_of_lt_of_le g2 hb.size, g3⟩
  rcases resVs_ok (ρ := ρ) hR hr (by simpa using henv) with ⟨rfl, h3⟩ | ⟨m, e, x, l, cs, v, rfl, he, h4, h5, h6, h7, h8, h9⟩ | h2
  · refine ⟨β, h.ext hb, h3 β _ fun b hb' => ?_⟩
    show okk C w0 ok0 ρ s β w' b
    rcases ho b hb' with hk | ⟨g1, g2⟩
    · exact hokx b hk
    · exact .inr ⟨by omega, g2, hmut b g1⟩
  · obtain ⟨hfr, hfo⟩ := hu _ (List.mem_singleton.2 rfl)
    simp only at hfr hfo
    have hag := Be.new_agree β m 0 e v
    have hvl : (β.new m 0 e v).vl m 0 = v := by simp [Be.new]
    have hsim : SimB C w0 ok0 ρ (s.upd pc [(m, .arr e x 0)]) (β.new m 0 e v) a w' := by
      refine h.up1' (o := .arr e x 0) hpc (h.below.trans (hb.mono hs)) hb.size (fun _ => False) (fun _ he => he.elim) (fun y hy _ => hb.block y hy) ?_ ?_ ?_ ?_ ?_
      · intro b _ hb'
        rw [Blk_arr, hvl] at hb'
        exact ⟨.inr (h5.lt b hb').1, (h5.lt b hb').2⟩
      · exact fun ok t' u x hl hu => RepSV.other hag (slFree_look hfr hl) hu
      · intro ok n q o' hn hl hu
        exact RepOb.other hag hn (obFree_look hfo hl).2 hu
      · intro n q o' hn hl
        exact Blk_other hag hn
      · intro ok' hok hnew
        refine ⟨by simp [Be.new], he, l, cs, h4, h6.keep (fun b hb' => ?_) (fun _ _ => rfl), h7, ?_⟩
        · rcases ho b hb' with hk | ⟨g1, g2⟩
          · exact hok b hk
          · refine hnew b g1 g2 ?_
            rw [Blk_arr, hvl]
            exact fun e => h8 b e hb'
        · rw [hvl]
          refine ⟨h5.1, h5.2.imp id ?_⟩
          rintro ⟨g, cap, cur, k1, k2, k3⟩
          exact ⟨g, cap, cur, k1, Nat.le_trans hs k2, k3⟩
    refine ⟨_, hsim, h9 _ _ hvl fun b hb' => ?_⟩
    have hMut : ¬ Mut C ρ (s.upd pc [(m, .arr e x 0)]) (β.new m 0 e v) b ∨ (ok0 b ∧ b < w0.heap.size) := by
      by_cases hlt : b < w.heap.size
      · rcases ho b hb' with hk | ⟨g1, _⟩
        · rcases hk with hk | ⟨_, _, hm⟩
          · exact .inr hk
          · left
            rintro ⟨n', q, o', g1, g2, g3, g4⟩
            simp only [S.upd, putOb, List.map_cons, List.map_nil, List.cons_append, List.nil_append, look] at g1
            split at g1
            · rename_i hn
              simp only [Option.some.injEq, Prod.mk.injEq] at g1
              obtain ⟨rfl, rfl⟩ := g1
              subst hn
              rw [Blk_arr, hvl] at g4
              exact h8 b g4 hb'
            · rename_i hn
              rw [Blk_other hag (Ne.symm hn)] at g4
              exact hm ⟨n', q, o', g1, g2, g3, g4⟩
        · omega
      · left
        rintro ⟨n', q, o', g1, g2, g3, g4⟩
        simp only [S.upd, putOb, List.map_cons, List.map_nil, List.cons_append, List.nil_append, look] at g1
        split at g1
        · rename_i hn
          simp only [Option.some.injEq, Prod.mk.injEq] at g1
          obtain ⟨rfl, rfl⟩ := g1
          subst hn
          rw [Blk_arr, hvl] at g4
          exact h8 b g4 hb'
        · rename_i hn
          rw [Blk_other hag (Ne.symm hn)] at g4
          exact hmut b (by omega) ⟨n', q, o', g1, g2, g3, g4⟩
    rcases hMut with hM | hk
    · rcases ho b hb' with hk | ⟨g1, g2⟩
      · rcases hk with hk | ⟨g1, g2, _⟩
        · exact .inl hk
        · exact .inr ⟨g1, Nat.lt_of_lt_of_le g2 hb.size, hM⟩
      · exact .inr ⟨by omega, g2, hM⟩
    · exact .inl hk
  · omega
end
end Sy

/- Calls, as operations. -/
namespace Sy
open Go Go.RowKit

section
variable {C : Ctx} {w0 : World} {ok0 : Nat → Prop} {ρ : List D} {s : S} {β : Be} {a : Act} {w : World} {pc : PC} {ob : Obs}

theorem run_enter (H : COK C) {o : Oper} {c : Call} {fe : Operand} {f : Nat} {sg : Sig} {v1 v2 : List Value} (ho : o.op = .call c) (hc : c.callee = .value fe) (hs : C.sigs f = some sg) (hf : a.eval fe = .func (.func f) v1.toArray v2.toArray) :
    (execOp a.eval o).run C.P w = .ok (.enter f (v1 ++ c.args.toList.map a.eval ++ v2).toArray) w := by
  obtain ⟨fn, h1, h2, h3⟩ := H.call f sg hs
  have h4 : ¬ fn.name = "runtime.NumGoroutine" := by simpa using h3
  have h5 : ¬ fn.body = none := by cases hx : fn.body <;> simp_all
  unfold execOp
  simp only [ho, resolve, hc, hf, Deferred.ofValue, Sem.run_bind, Sem.run_pure, Result.andThen_ok, invoke, callFunc, run_program, h1, h3, h2, Bool.false_eq_true, if_false]
  simp

theorem RepVs.append {ok : Nat → Prop} {k1 k2 : List K} {d1 d2 : List D} {v1 v2 : List Value} (h : RepVs C w ok k1 d1 v1) (h2 : RepVs C w ok k2 d2 v2) : RepVs C w ok (k1 ++ k2) (d1 ++ d2) (v1 ++ v2) := by
  induction k1 generalizing d1 v1 with
  | nil => cases h; exact h2
  | cons k ks ih =>
    cases h with
    | cons hc hl => exact .cons hc (ih hl)
theorem RepSVs.append2 {ok : Nat → Prop} : ∀ {l1 l2 : List SV} {v1 v2 : List Value}, RepSVs C ρ β w ok l1 v1 → RepSVs C ρ β w ok l2 v2 → RepSVs C ρ β w ok (l1 ++ l2) (v1 ++ v2)
  | [], _, _, _, h, h2 => by simp only [RepSVs] at h; subst h; exact h2
  | _ :: _, _, _, _, ⟨v, r, h1, h3, h4⟩, h2 => by subst h1; exact ⟨v, _, rfl, h3, RepSVs.append2 h4 h2⟩

theorem putOb_append {pc : PC} {l1 l2 : List (Nat × Ob)} {ob : List (Nat × PC × Ob)} : putOb pc (l1 ++ l2) ob = putOb pc l1 (putOb pc l2 ob) := by simp [putOb]
theorem resVs_nil {dst n : Nat} : ∀ {ks : List K} {i : Nat} {svs : List SV} {ups : List (Nat × Ob)}, resVs C dst n ks [] i = some (svs, ups) → ups = []
  | [], i, svs, ups, h => by simp only [resVs, Option.some.injEq, Prod.mk.injEq] at h; exact h.2.symm
  | k :: ks, i, svs, ups, h => by
    simp only [resVs, List.tail_nil, List.headD_nil, Bool.false_eq_true, if_false] at h
    cases hr : resVs C dst n ks [] (i + 1) with
    | none => simp [hr] at h
    | some y =>
      simp only [hr, Option.some.injEq, Prod.mk.injEq] at h
      rw [← h.2]
      exact resVs_nil (ks := ks) hr

theorem Good.enter {o : Oper} {r : Res} {f : Nat} {args : List Value} {sg : Sig} {ok : Nat → Prop} {rs : List D} (hx : (execOp a.eval o).run C.P w = .ok (.enter f args.toArray) w) (hc : Calls C.P f args.toArray w (Ends C sg ok w rs))
    (hb : ∀ okr vs w', Below w.heap.size w w' → (∀ b, okr b → ok b ∨ (w.heap.size ≤ b ∧ b < w'.heap.size)) → RepRs C w' okr w.heap.size sg.results sg.own rs vs → ∃ β', SimB C w0 ok0 ρ (s.upd pc r.up) β' a w' ∧ RepSV C ρ β' w' (okk C w0 ok0 ρ (s.upd pc r.up) β' w') r.v (retOf vs)) : Good C w0 ok0 ρ s pc o r a w := by
  intro K Q hK
  unfold Oper.wp
  rw [hx, Oper.upon_enter]
  refine hc.mono ?_
  rintro e w' ⟨okr, vs, rfl, h1, h2, h3⟩
  obtain ⟨β', k1, k2⟩ := hb okr vs w' h1 h2 h3
  exact hK β' _ w' k1 k2

/-- A call of a function that is known. -/
theorem callF_ok (H : COK C) (HG : GOK C w0 ok0) (Hok : ∀ b, ok0 b → b < w0.heap.size) (h : SimB C w0 ok0 ρ s β a w) (hpc : pcOK C.G ρ pc = true) (hob : ∀ m o, ob m = some o → obsOf s pc m = some o) {o : Oper} {c : Call} {fe : Operand} {f n : Nat} {F : List D → Option (List D)} {args : List SV} {v1 v2 : List Value} {r : Res}
    (ho : o.op = .call c) (hc : c.callee = .value fe) (hfe : a.eval fe = .func (.func f) v1.toArray v2.toArray) (hargs : RepSVs C ρ β w (okk C w0 ok0 ρ s β w) args (v1 ++ c.args.toList.map a.eval ++ v2))
    (hr : callF C ob n (o.dst.getD 0) o.dst.isNone f args = some r) (HS : Sound C f F) (hup : r.up.all (upOK s pc) = true) (hnw : r.nw.all (fun m => (look s.ob m).isNone) = true)
    (hpre : ∀ m es, r.pre = [.call m f es] → ∃ rs, F (evs C.G ρ es) = some rs ∧ ∀ j d, rs[j]? = some d → j < m → at_ ρ (n + j) = d) : Good C w0 ok0 ρ s pc o r a w := by
  have hobR : ∀ m o, ob m = some o → RepOb C w0 ρ β w (okk C w0 ok0 ρ s β w) m o := fun m o hm => by
    obtain ⟨q, g1, g2⟩ := obsOf_some (hob m o hm)
    exact h.ob m q o g1 (subPC_ok g2 hpc)
  have hs := h.below.size
  have hG : ∀ (ok : Nat → Prop), (∀ b, ok0 b → ok b) → GOK C w ok := fun ok hk => HG.keep hk fun b hb => h.below.block b (Hok b hb)
  unfold callF at hr
  cases hsg : C.sigs f with
  | none => simp [hsg] at hr
  | some sg =>
    simp only [hsg] at hr
    cases hd : toDs C ob depth sg.params args with
    | none => simp [hd] at hr
    | some y =>
      obtain ⟨es, ns⟩ := y
      simp only [hd] at hr
      cases hv : (if o.dst.isNone = true then some ([], []) else resVs C (o.dst.getD 0) n sg.results sg.own 0) with
      | none => rw [hv] at hr; simp at hr
      | some y =>
        obtain ⟨svs, ups⟩ := y
        rw [hv] at hr
        simp only at hr
        split at hr
        · simp at hr
        rename_i hlen
        have hrun := run_enter (w := w) H ho hc hsg hfe
        have hD := (toD_all H hobR depth).2.2.2 _ _ _ _ _ hd hargs
        -- behind the call
        have fin : ∀ (s' : S) (ok : Nat → Prop) (rs : List D) (r' : Res), SimB C w0 ok0 ρ s' β a w → r'.v = (if o.dst.isNone = true then SV.junk else oneV svs) → s.upd pc r'.up = s'.upd pc ups → (∀ x ∈ ups, slFree x.1 s'.sl = true ∧ obFree x.1 s'.ob = true) →
            (∀ j d, rs[j]? = some d → j < sg.results.length → at_ ρ (n + j) = d) →
            ∀ okr vs w', Below w.heap.size w w' → (∀ b, okr b → okk C w0 ok0 ρ s' β w b ∨ (w.heap.size ≤ b ∧ b < w'.heap.size)) → RepRs C w' okr w.heap.size sg.results sg.own rs vs →
            ∃ β', SimB C w0 ok0 ρ (s.upd pc r'.up) β' a w' ∧ RepSV C ρ β' w' (okk C w0 ok0 ρ (s.upd pc r'.up) β' w') r'.v (retOf vs) := by
          intro s' ok rs r' h' hv' hup' hfr henv okr vs w' g1 g2 g3
          rw [hup', hv']
          have henv' : ∀ j d, rs[j]? = some d → at_ ρ (n + j) = d := fun j d hj => henv j d hj (by rw [← g3.len.1]; exact (List.getElem?_eq_some_iff.1 hj).1)
          cases hcond : o.dst.isNone with
          | true =>
            rw [hcond] at hv
            simp only [if_true, Option.some.injEq, Prod.mk.injEq] at hv
            obtain ⟨rfl, rfl⟩ := hv
            exact ⟨β, h'.ext g1, trivial⟩
          | false =>
            rw [hcond] at hv
            simp only [Bool.false_eq_true, if_false] at hv
            obtain ⟨β', k1, k2⟩ := back_ok h' hpc g1 g2 g3 hv henv' hlen hfr
            exact ⟨β', k1, by simpa using oneV_ok k2⟩
        split at hr
        · rename_i hfresh
          simp only [Bool.and_eq_true] at hfresh
          simp only [Option.some.injEq] at hr
          subst hr
          obtain ⟨rs, e1, e2⟩ := hpre _ _ rfl
          have hnew : ∀ x ∈ ups, slFree x.1 s.sl = true ∧ obFree x.1 s.ob = true := fun x hx => by
            have k1 := List.all_eq_true.1 hup x hx
            have k2 := List.all_eq_true.1 hnw x.1 (List.mem_map.2 ⟨x, hx, rfl⟩)
            have := upOK_new (m := x.1) (o := x.2) k1 (by simpa using k2)
            exact ⟨this.1, this.2.1⟩
          refine Good.enter hrun (HS sg hsg _ _ e1 w (fun b => b < w.heap.size) _ (hG _ fun b hb => Nat.lt_of_lt_of_le (Hok b hb) hs) (fun b hb => hb) (hD.keep (fun b hb => ?_) fun _ _ => rfl)) ?_
          · rcases hb with hb | ⟨m, hm, o', g1, g2⟩
            · exact okk_size hs hb
            · obtain ⟨q, g3, g4⟩ := obsOf_some (hob m o' g1)
              have hmu := List.all_eq_true.1 hfresh.2 m hm
              rw [g1] at hmu
              cases o' with
              | box t v => exact (h.rng m q _ b g3 (subPC_ok g4 hpc) rfl g2).2
              | arr e c ver => exact (h.rng m q _ b g3 (subPC_ok g4 hpc) rfl g2).2
              | fbox t c => simp at hmu
              | farr e c ver => simp at hmu
              | narr _ _ _ _ _ _ => first | (simp at hmu; done) | exact (h.rng m q _ b g3 (subPC_ok g4 hpc) rfl g2).2
          · intro okr vs w' g1 g2 g3
            exact fin s (fun b => b < w.heap.size) rs _ h rfl rfl hnew e2 (fun _ => False) vs w' g1 (fun b hb => hb.elim) (g3.flat hfresh.1 fun b _ hb => hb)
        · cases hf : frzs C ob ns ns with
          | none => simp [hf] at hr
          | some fs =>
            simp only [hf, Option.some.injEq] at hr
            subst hr
            obtain ⟨rs, e1, e2⟩ := hpre _ _ rfl
            obtain ⟨h', ho2⟩ := h.freeze H hpc hob hf
            have hnew : ∀ x ∈ ups, slFree x.1 (s.upd pc fs).sl = true ∧ obFree x.1 (s.upd pc fs).ob = true := fun x hx => by
              have k1 := List.all_eq_true.1 hup x (List.mem_append_left _ hx)
              have k2 := List.all_eq_true.1 hnw x.1 (List.mem_map.2 ⟨x, hx, rfl⟩)
              have k3 : look s.ob x.1 = none := by simpa using k2
              have := upOK_new (m := x.1) (o := x.2) k1 k3
              refine ⟨this.1, obFree_put (fun y hy => ⟨fun e => ?_, (frzs_mem hf y hy).2 _⟩) this.2.1⟩
              obtain ⟨g1, _⟩ := frzs_mem hf y hy
              obtain ⟨o', ho'⟩ := Option.isSome_iff_exists.1 g1
              obtain ⟨q, g2, _⟩ := obsOf_some (hob _ _ ho')
              rw [e, k3] at g2
              simp at g2
            refine Good.enter hrun (HS sg hsg _ _ e1 w (okk C w0 ok0 ρ (s.upd pc fs) β w) _ (hG _ fun b hb => .inl ⟨hb, Hok b hb⟩) (fun b hb => okk_size hs hb) (hD.keep ho2 fun _ _ => rfl)) ?_
            intro okr vs w' g1 g2 g3
            exact fin (s.upd pc fs) (okk C w0 ok0 ρ (s.upd pc fs) β w) rs _ h' rfl (by simp [S.upd, putOb_append]) hnew e2 okr vs w' g1 g2 g3

/-- A call of a function that is data. -/
theorem callV_ok (H : COK C) (HG : GOK C w0 ok0) (Hok : ∀ b, ok0 b → b < w0.heap.size) (h : SimB C w0 ok0 ρ s β a w) (hpc : pcOK C.G ρ pc = true) (hob : ∀ m o, ob m = some o → obsOf s pc m = some o) {o : Oper} {c : Call} {fe : Operand} {t n : Nat} {fx : Ex} {Γ : Fns} {args : List SV} {r : Res}
    (ho : o.op = .call c) (hc : c.callee = .value fe) (hfe : RepSV C ρ β w (okk C w0 ok0 ρ s β w) (.dat (.func t) fx) (a.eval fe)) (hargs : RepSVs C ρ β w (okk C w0 ok0 ρ s β w) args (c.args.toList.map a.eval))
    (hr : callV C ob n (o.dst.getD 0) o.dst.isNone t fx args = some r) (HS : ∀ f, Sound C f (Γ f)) (hup : r.up.all (upOK s pc) = true)
    (hpre : ∀ m g es, r.pre = [.callv m g es] → ∃ rs, callD Γ (g.ev C.G ρ) (evs C.G ρ es) = some rs ∧ ∀ j d, rs[j]? = some d → j < m → at_ ρ (n + j) = d) : Good C w0 ok0 ρ s pc o r a w := by
  have hobR : ∀ m o, ob m = some o → RepOb C w0 ρ β w (okk C w0 ok0 ρ s β w) m o := fun m o hm => by
    obtain ⟨q, g1, g2⟩ := obsOf_some (hob m o hm)
    exact h.ob m q o g1 (subPC_ok g2 hpc)
  have hs := h.below.size
  have hG : ∀ (ok : Nat → Prop), (∀ b, ok0 b → ok b) → GOK C w ok := fun ok hk => HG.keep hk fun b hb => h.below.block b (Hok b hb)
  unfold callV at hr
  cases hft : C.funcOf t with
  | none => simp [hft] at hr
  | some y =>
    obtain ⟨ps, rk⟩ := y
    simp only [hft] at hr
    cases hd : toDs C ob depth (ps.map C.kd) args with
    | none => simp [hd] at hr
    | some y =>
      obtain ⟨es, ns⟩ := y
      simp only [hd] at hr
      cases hv : (if o.dst.isNone = true then some ([], []) else resVs C (o.dst.getD 0) n (rk.map C.kd) [] 0) with
      | none => rw [hv] at hr; simp at hr
      | some y =>
        obtain ⟨svs, ups⟩ := y
        rw [hv] at hr
        simp only at hr
        cases hf : frzs C ob ns ns with
        | none => simp [hf] at hr
        | some fs =>
          simp only [hf, Option.some.injEq] at hr
          subst hr
          obtain ⟨rs, e1, e2⟩ := hpre _ _ _ rfl
          have hD := (toD_all H hobR depth).2.2.2 _ _ _ _ _ hd hargs
          obtain ⟨h', ho2⟩ := h.freeze H hpc hob hf
          have ho1 : ∀ b, okk C w0 ok0 ρ s β w b → okk C w0 ok0 ρ (s.upd pc fs) β w b := fun b hb => ho2 b (.inl hb)
          obtain ⟨cs, q1, q2⟩ := hfe
          generalize hfd : fx.ev C.G ρ = fd at q1 e1
          cases q1 with
          | @func _ f first cap k1 k2 v1 v2 ps' rk' sg g1 g2 g3 g4 g5 g6 =>
            rw [hft] at g1
            simp only [Option.some.injEq, Prod.mk.injEq] at g1
            obtain ⟨rfl, rfl⟩ := g1
            have q2' : a.eval fe = .func (.func f) v1.toArray v2.toArray := by rw [q2]; rfl
            have hrun := run_enter (w := w) H ho hc g2 q2'
            simp only [callD] at e1
            have hargs' : RepVs C w (okk C w0 ok0 ρ (s.upd pc fs) β w) sg.params (first ++ evs C.G ρ es ++ cap) (v1 ++ c.args.toList.map a.eval ++ v2) := by
              rw [g3]
              exact RepVs.append (RepVs.append (g5.keep ho1 fun _ _ => rfl) (hD.keep ho2 fun _ _ => rfl)) (g6.keep ho1 fun _ _ => rfl)
            refine Good.enter hrun (HS f sg g2 _ _ e1 w (okk C w0 ok0 ρ (s.upd pc fs) β w) _ (hG _ fun b hb => .inl ⟨hb, Hok b hb⟩) (fun b hb => okk_size hs hb) hargs') ?_
            intro okr vs w' j1 j2 j3
            have j4 := (j3.wide (okr' := fun b => okr b ∨ (w.heap.size ≤ b ∧ b < w'.heap.size)) (fun b hb => .inl hb) (fun b h1 h2 => .inr ⟨h1, h2⟩))
            rw [g4] at j4
            cases hcond : o.dst.isNone with
            | true => exact ⟨β, SimB.ext h' j1, by simp only [if_true]; trivial⟩
            | false =>
              rw [hcond] at hv
              simp only [Bool.false_eq_true, if_false] at hv
              have hun := resVs_nil hv
              subst hun
              obtain ⟨β', k1, k2⟩ := back_ok h' hpc j1 (fun b hb => hb.elim (fun hb => j2 b hb) .inr) j4 hv (fun j d hj => e2 j d hj (by have := (List.getElem?_eq_some_iff.1 hj).1; rw [j4.len.1] at this; simpa using this)) (by simp) (by simp)
              exact ⟨β', k1, oneV_ok k2⟩
end
end Sy

/- Each operation does what 'eff' says of it. -/
namespace Sy
open Go Go.RowKit

section
variable {C : Ctx} {w0 : World} {ok0 : Nat → Prop} {ρ : List D} {s : S} {β : Be} {a : Act} {w : World} {pc : PC} {ob : Obs}

/-- What has been checked, what the calls have yielded. -/
structure Passed (C : Ctx) (Γ : Fns) (ρ : List D) (n : Nat) (pre : List Pre) : Prop where
  chk : ∀ e, Pre.chk e ∈ pre → (e.ev C.G ρ).asB = true
  call : ∀ m f es, pre = [.call m f es] → ∃ rs, Γ f (evs C.G ρ es) = some rs ∧ ∀ j d, rs[j]? = some d → j < m → at_ ρ (n + j) = d
  callv : ∀ m g es, pre = [.callv m g es] → ∃ rs, callD Γ (g.ev C.G ρ) (evs C.G ρ es) = some rs ∧ ∀ j d, rs[j]? = some d → j < m → at_ ρ (n + j) = d

theorem Passed.all {Γ : Fns} {n : Nat} {l : List Ex} (h : Passed C Γ ρ n (l.map .chk)) : allT C.G ρ l := fun e he => h.chk e (List.mem_map.2 ⟨e, he, rfl⟩)

theorem pures_ok {o : Oper} {l : List Ex} {v : SV} {r : Res} {x : Value} (hr : pures l v = some r) (h : SimB C w0 ok0 ρ s β a w) (hx : (execOp a.eval o).run C.P w = .ok (.value x) w) (hv : RepSV C ρ β w (okk C w0 ok0 ρ s β w) v x) : Good C w0 ok0 ρ s pc o r a w := by
  simp only [pures, Option.some.injEq] at hr
  subst hr
  exact Good.pure h hx hv

theorem pickV_ok {ok : Nat → Prop} {ec : Ex} {b : Bool} {x y v : SV} {xa xb : Value} (h : pickV ec x y = some v) (hc : ec.ev C.G ρ = .bool b) (hx : b = true → RepSV C ρ β w ok x xa) (hy : b = false → RepSV C ρ β w ok y xb) : RepSV C ρ β w ok v (if b = true then xa else xb) := by
  unfold pickV at h
  split at h
  · simp only [Ex.ev, D.bool.injEq] at hc
    subst hc
    simp only [Option.some.injEq] at h
    subst h
    simpa using hx rfl
  · simp only [Ex.ev, D.bool.injEq] at hc
    subst hc
    simp only [Option.some.injEq] at h
    subst h
    simpa using hy rfl
  · split at h
    · rename_i k x' k' y'
      split at h
      · rename_i hk
        subst hk
        split at h
        · rename_i hk
          obtain ⟨rfl, rfl⟩ := hk
          simp only [Option.some.injEq] at h
          subst h
          cases b with
          | true => simpa only [RepSV, Ex.ev, U2.ev, hc, D.asB, Bool.true_or, if_true] using hx rfl
          | false =>
            have := hy rfl
            obtain ⟨b', h1, h2⟩ := RepV.bool this
            simp only [RepSV] at this ⊢
            simpa only [Ex.ev, U2.ev, hc, h1, D.asB, Bool.false_or, Bool.false_eq_true, if_false] using h1 ▸ this
        · split at h
          · rename_i hk
            obtain ⟨rfl, rfl⟩ := hk
            simp only [Option.some.injEq] at h
            subst h
            cases b with
            | true =>
              have := hx rfl
              obtain ⟨b', h1, h2⟩ := RepV.bool this
              simp only [RepSV] at this ⊢
              simpa only [Ex.ev, U2.ev, hc, h1, D.asB, Bool.true_and, if_true] using h1 ▸ this
            | false => simpa only [RepSV, Ex.ev, U2.ev, hc, D.asB, Bool.false_and, Bool.false_eq_true, if_false] using hy rfl
          · simp only [Option.some.injEq] at h
            subst h
            cases b with
            | true => simpa only [RepSV, Ex.ev, U3.ev, hc, D.asB, if_true] using hx rfl
            | false => simpa only [RepSV, Ex.ev, U3.ev, hc, D.asB, Bool.false_eq_true, if_false] using hy rfl
      · simp at h
    · simp at h

theorem RepSV.toAgg {ok : Nat → Prop} {t : Nat} {v : SV} {l : List SV} {x : Value} (hp : parts C t v = some l) (h : RepSV C ρ β w ok v x) : ∃ cs fs, x = .agg cs.toArray ∧ C.fields t = some fs ∧ RepScs C ρ β w ok l fs cs := by
  have key : ∃ cs, RepSc C ρ β w ok v (.struct t) cs ∧ x = .agg cs.toArray := by
    unfold parts at hp
    cases v with
    | agg t' l' =>
      simp only at hp
      split at hp
      · rename_i ht
        subst ht
        obtain ⟨cs, fs, h1, h2, h3⟩ := h
        exact ⟨cs, ⟨rfl, fs, h1, h2⟩, h3⟩
      · simp at hp
    | dat k e =>
      simp only at hp
      split at hp
      · rename_i hk
        subst hk
        obtain ⟨cs, h1, h2⟩ := h
        exact ⟨cs, ⟨rfl, h1⟩, h2⟩
      · simp at hp
    | _ => simp at hp
  obtain ⟨cs, h1, h2⟩ := key
  obtain ⟨fs, h3, h4⟩ := parts_ok hp h1
  exact ⟨cs, fs, h2, h3, h4⟩

theorem field_get (H : COK C) {ok : Nat → Prop} {t i : Nat} {v r : SV} {l : List SV} {x : Value} (hp : parts C t v = some l) (hi : l[i]? = some r) (h : RepSV C ρ β w ok v x) : ∃ y, (Instr.field t x i).run C.P w = .ok y w ∧ RepSV C ρ β w ok r y := by
  obtain ⟨cs, fs, rfl, hf, hR⟩ := h.toAgg hp
  obtain ⟨e, gs, _, _, hu, hoff, _, _, _⟩ := fields_fact H hf
  obtain ⟨ft, pre, c1, post, g1, g2, g3, g4, _⟩ := RepScs.get H hR (offs_in hoff) hi
  obtain ⟨g, k1, k2, k3, k4⟩ := offsOK_get hoff g1
  have hin := offs_in hoff ft (List.mem_of_getElem? g1)
  have hl := RepSc.repC_len H hin g4
  refine ⟨wrap (C.kd ft) c1, ?_, g4.toV⟩
  have ha := isAgg_row (w := w) H hin
  have hz := size_run (w := w) H hin
  have hgs : gs[i]? = some g := by simpa using k1
  have hoff' : g.offset = pre.length := by rw [k3, g3]; omega
  simp only [Instr.field, Sem.run_bind, run_underlying hu, Result.andThen_ok, hgs, asAgg, Sem.run_pure, part, k2, ha]
  unfold wrap
  cases hk : (C.kd ft).isRow with
  | true =>
    simp only [if_true, Sem.run_bind, hz, Result.andThen_ok, Sem.run_pure]
    congr 2
    apply Array.ext'
    rw [g2, hoff', ← hl]
    simp
  | false =>
    have h1 : c1.length = 1 := by rw [hl, ← kd_size H hin, ksz_one hk]
    match c1, h1 with
    | [u], _ =>
      have : cs.toArray[g.offset]? = some u := by rw [g2, hoff']; simp
      simp [this]

theorem exIs_ok {ok : Nat → Prop} {ev : PC → Operand → Option SV} (hev : ∀ x v, ev [] x = some v → RepSV C ρ β w ok v (a.eval x)) : ∀ {l : List Operand} {vs : List SV}, exIs (ev []) l = some vs → RepSVs C ρ β w ok vs (l.map a.eval)
  | [], vs, h => by simp only [exIs, Option.some.injEq] at h; subst h; rfl
  | x :: l, vs, h => by
    simp only [exIs] at h
    cases h1 : ev [] x with
    | none => simp [h1] at h
    | some v =>
      cases h2 : exIs (ev []) l with
      | none => simp [h1, h2] at h
      | some r =>
        simp only [h1, h2, Option.some.injEq] at h
        subst h
        exact ⟨_, _, rfl, hev _ _ h1, exIs_ok hev h2⟩
theorem partsOf_ok {ok : Nat → Prop} {ev : PC → Operand → Option SV} (hev : ∀ x v, ev [] x = some v → RepSV C ρ β w ok v (a.eval x)) : ∀ {l : List (Nat × Operand)} {vs : List (Nat × SV)}, partsOf (ev []) l = some vs → RepP C ρ β w ok vs (l.map fun (i, x) => (i, a.eval x))
  | [], vs, h => by simp only [partsOf, Option.some.injEq] at h; subst h; exact .nil
  | (i, x) :: l, vs, h => by
    simp only [partsOf] at h
    cases h1 : ev [] x with
    | none => simp [h1] at h
    | some v =>
      cases h2 : partsOf (ev []) l with
      | none => simp [h1, h2] at h
      | some r =>
        simp only [h1, h2, Option.some.injEq] at h
        subst h
        exact .cons (hev _ _ h1) (partsOf_ok hev h2)

theorem RepSVs.get {ok : Nat → Prop} : ∀ {l : List SV} {vs : List Value} {i : Nat} {v : SV}, RepSVs C ρ β w ok l vs → l[i]? = some v → ∃ x, vs[i]? = some x ∧ RepSV C ρ β w ok v x
  | [], _, _, _, _, h => by simp at h
  | y :: l, _, 0, v, ⟨x, r, h1, h2, h3⟩, h => by
    subst h1
    simp only [List.getElem?_cons_zero, Option.some.injEq] at h
    subst h
    exact ⟨x, rfl, h2⟩
  | y :: l, _, i + 1, v, ⟨x, r, h1, h2, h3⟩, h => by
    subst h1
    obtain ⟨x, g1, g2⟩ := RepSVs.get (i := i) (v := v) h3 (by simpa using h)
    exact ⟨x, by simpa using g1, g2⟩

theorem intsOf_ok {ok : Nat → Prop} {k : IntKind} : ∀ {l : List SV} {es : List Ex} {vs : List Value}, intsOf k l = some es → RepSVs C ρ β w ok l vs → ∃ ns : List Int, es.map (Ex.ev C.G ρ) = ns.map D.int ∧ vs = ns.map (Value.int k) ∧ ∀ n ∈ ns, k.min ≤ n ∧ n ≤ k.max
  | [], es, vs, h, hv => by
    simp only [intsOf, Option.some.injEq] at h
    subst h
    simp only [RepSVs] at hv
    subst hv
    exact ⟨[], rfl, rfl, by simp⟩
  | x :: l, es, vs, h, ⟨v, r, h1, h2, h3⟩ => by
    subst h1
    cases x with
    | dat k' e =>
      simp only [intsOf] at h
      split at h
      · rename_i hk
        subst hk
        cases h4 : intsOf k l with
        | none => simp [h4] at h
        | some es' =>
          simp only [h4, Option.map_some, Option.some.injEq] at h
          subst h
          obtain ⟨n, g1, g2, g3⟩ := RepV.int h2
          obtain ⟨ns, k1, k2, k3⟩ := intsOf_ok h4 h3
          exact ⟨n :: ns, by simp [g1, k1], by simp [g2, k2], by
            intro m hm
            rcases List.mem_cons.1 hm with rfl | hm
            · exact g3
            · exact k3 m hm⟩
      · simp at h
    | _ => simp [intsOf] at h
theorem mm_fold {op : U2} {g : Int → Int → Int} (hop : ∀ a b, op.ev (.int a) (.int b) = .int (g a b)) : ∀ (es : List Ex) (ns : List Int) (x : Ex) (n : Int), es.map (Ex.ev C.G ρ) = ns.map D.int → x.ev C.G ρ = .int n → (es.foldl (fun a b => .bin op a b) x).ev C.G ρ = .int (ns.foldl g n)
  | [], ns, x, n, h, hx => by
    cases ns with
    | nil => exact hx
    | cons _ _ => simp at h
  | e :: es, ns, x, n, h, hx => by
    cases ns with
    | nil => simp at h
    | cons m ns =>
      simp only [List.map_cons, List.cons.injEq] at h
      exact mm_fold hop es ns _ _ h.2 (by simp only [Ex.ev, hx, h.1, hop])
theorem mm_run {f : Value → Value → Sem Value} {g : Int → Int → Int} {k : IntKind} (hf : ∀ a b, f (.int k a) (.int k b) = pure (.int k (g a b))) : ∀ (ns : List Int) (n : Int), ((ns.map (Value.int k)).foldlM f (Value.int k n) : Sem Value).run C.P w = .ok (.int k (ns.foldl g n)) w
  | [], n => by simp
  | m :: ns, n => by
    simp only [List.map_cons, List.foldlM_cons, hf, Sem.run_bind, Sem.run_pure, Result.andThen_ok, List.foldl_cons]
    exact mm_run hf ns _
theorem mm_in {g : Int → Int → Int} {k : IntKind} (hg : ∀ a b, g a b = a ∨ g a b = b) : ∀ (ns : List Int) (n : Int), (k.min ≤ n ∧ n ≤ k.max) → (∀ m ∈ ns, k.min ≤ m ∧ m ≤ k.max) → k.min ≤ ns.foldl g n ∧ ns.foldl g n ≤ k.max
  | [], n, h, _ => h
  | m :: ns, n, h, hm => mm_in hg ns _ (by rcases hg n m with e | e <;> rw [e]; exact h; exact hm m (List.mem_cons_self ..)) fun x hx => hm x (List.mem_cons_of_mem _ hx)
end
end Sy

/- Rows whose elements are known: functions, addresses of variables. -/
namespace Sy
open Go Go.RowKit

section
variable {C : Ctx} {w0 : World} {ok0 : Nat → Prop} {ρ : List D} {s : S} {β : Be} {a : Act} {w : World} {pc : PC} {ob : Obs}

theorem evs_get0 {G : Nat → D} {ρ : List D} : ∀ {l : List Ex} {i : Nat} {e : Ex}, l[i]? = some e → (evs G ρ l)[i]? = some (e.ev G ρ)
  | [], i, e, h => by simp at h
  | x :: l, 0, e, h => by simp only [List.getElem?_cons_zero, Option.some.injEq] at h; subst h; rfl
  | x :: l, i + 1, e, h => by simpa [evs] using evs_get0 (l := l) (by simpa using h)
theorem tabOf_ok {ok : Nat → Prop} {ps : List (Nat × SV)} {parts : List (Nat × Value)} (hP : RepP C ρ β w ok ps parts) : ∀ (n i : Nat) (l : List SV), tabOf ps n i = some l →
    ∃ xs, RepSVs C ρ β w ok l xs ∧ xs.length = n ∧ l.length = n ∧ ∀ j, j < n → look parts (i + j) = xs[j]?
  | 0, i, l, h => by
    simp only [tabOf, Option.some.injEq] at h
    subst h
    exact ⟨[], rfl, rfl, rfl, fun j hj => by omega⟩
  | n + 1, i, l, h => by
    simp only [tabOf] at h
    split at h
    · rename_i v l' hv hl
      simp only [Option.some.injEq] at h
      subst h
      obtain ⟨xs, h1, h2, h3, h4⟩ := tabOf_ok hP n (i + 1) l' hl
      rcases hP.look i with ⟨k1, _⟩ | ⟨v', x, k1, k2, k3⟩
      · rw [k1] at hv; simp at hv
      · rw [hv] at k1
        simp only [Option.some.injEq] at k1
        subst k1
        refine ⟨x :: xs, ⟨x, xs, rfl, k3, h1⟩, by simp [h2], by simp [h3], fun j hj => ?_⟩
        cases j with
        | zero => simpa using k2
        | succ j =>
          have := h4 j (by omega)
          rw [show i + (j + 1) = i + 1 + j by omega]
          simpa using this
    · simp at h

theorem isFncs_mem : ∀ {l : List SV}, isFncs l = true → ∀ v ∈ l, ∃ f a b, v = .fnc f a b
  | [], _, v, hv => by simp at hv
  | .fnc f a b :: l, h, v, hv => by
    rcases List.mem_cons.1 hv with rfl | hv
    · exact ⟨f, a, b, rfl⟩
    · exact isFncs_mem (by simpa [isFncs] using h) v hv
  | .dat .. :: _, h, _, _ | .nils .. :: _, h, _, _ | .nil0 :: _, h, _, _ | .nilp :: _, h, _, _ | .sli .. :: _, h, _, _ | .bptr .. :: _, h, _, _ | .eptr .. :: _, h, _, _ | .agg .. :: _, h, _, _ | .tup .. :: _, h, _, _ | .tab .. :: _, h, _, _ | .tptr .. :: _, h, _, _ | .alt .. :: _, h, _, _ | .nilq _ :: _, h, _, _ | .gd .. :: _, h, _, _ | .junk :: _, h, _, _ => by simp [isFncs] at h
theorem isBptrs_mem : ∀ {l : List SV}, isBptrs l = true → ∀ v ∈ l, ∃ m p t, v = .bptr m p t
  | [], _, v, hv => by simp at hv
  | .bptr m p t :: l, h, v, hv => by
    rcases List.mem_cons.1 hv with rfl | hv
    · exact ⟨m, p, t, rfl⟩
    · exact isBptrs_mem (by simpa [isBptrs] using h) v hv
  | .dat .. :: _, h, _, _ | .nils .. :: _, h, _, _ | .nil0 :: _, h, _, _ | .nilp :: _, h, _, _ | .sli .. :: _, h, _, _ | .fnc .. :: _, h, _, _ | .eptr .. :: _, h, _, _ | .agg .. :: _, h, _, _ | .tup .. :: _, h, _, _ | .tab .. :: _, h, _, _ | .tptr .. :: _, h, _, _ | .alt .. :: _, h, _, _ | .nilq _ :: _, h, _, _ | .gd .. :: _, h, _, _ | .junk :: _, h, _, _ => by simp [isBptrs] at h
theorem RepP.one {ok : Nat → Prop} {ps : List (Nat × SV)} {parts : List (Nat × Value)} (hP : RepP C ρ β w ok ps parts) (hf : isFncs (ps.map (·.2)) = true ∨ isBptrs (ps.map (·.2)) = true) : ∀ p ∈ parts, p.2.cells = #[p.2] := by
  induction hP with
  | nil => simp
  | @cons i v x l r h hl ih =>
    intro p hp
    have hv : v ∈ (((i, v) :: l).map (·.2)) := by simp
    have htl : isFncs (l.map (·.2)) = true ∨ isBptrs (l.map (·.2)) = true := by
      rcases hf with hf | hf
      · left
        obtain ⟨f, a, b, rfl⟩ := isFncs_mem hf v hv
        simpa [isFncs] using hf
      · right
        obtain ⟨f, a, b, rfl⟩ := isBptrs_mem hf v hv
        simpa [isBptrs] using hf
    rcases List.mem_cons.1 hp with rfl | hp
    · rcases hf with hf | hf
      · obtain ⟨f, a, b, rfl⟩ := isFncs_mem hf v hv
        obtain ⟨v1, v2, h1, _⟩ := h
        simp only [h1]
        rfl
      · obtain ⟨m, p, t, rfl⟩ := isBptrs_mem hf v hv
        obtain ⟨off, _, h1⟩ := h
        simp only [h1]
        rfl
    · exact ih htl p hp

theorem flatten_singles : ∀ (xs : List Value), (xs.map fun x => [x]).flatten = xs
  | [] => rfl
  | x :: xs => by rw [List.map_cons, List.flatten_cons, flatten_singles xs]; rfl

theorem tab_ok (H : COK C) (h : SimB C w0 ok0 ρ s β a w) {o : Oper} {t e len : Nat} {parts : Array (Nat × Operand)} {ps : List (Nat × SV)} {vs : List SV} (ho : o.op = .buildSlice t len parts)
    (hk : C.kd t = .slice e) (hP : RepP C ρ β w (okk C w0 ok0 ρ s β w) ps (parts.map fun (i, x) => (i, a.eval x)).toList) (ht : isTab C e len ps = true) (hv : tabOf ps len 0 = some vs) :
    Good C w0 ok0 ρ s pc o ⟨[], .tab e vs, [], []⟩ a w := by
  simp only [isTab, Bool.and_eq_true, decide_eq_true_eq] at ht
  obtain ⟨⟨⟨⟨⟨⟨⟨c1, c2⟩, c3⟩, c4⟩, c5⟩, c6⟩, c7⟩, c8⟩ := ht
  obtain ⟨hu1, he, _⟩ := slice_fact H hk
  obtain ⟨i, hi, hsz, hby⟩ := info_fact H he
  rw [hi] at c8
  simp only at c8
  cases hz : i.zero with
  | none => simp [hz] at c8
  | some z =>
    simp only [hz, decide_eq_true_eq] at c8
    have hrow : (C.kd e).isRow = false := by
      cases hke : C.kd e <;> simp [hke] at c7 <;> rfl
    have hone := hP.one (by
      cases hke : C.kd e <;> simp [hke] at c7
      · exact .inr c7
      · exact .inl c7)
    obtain ⟨xs, x1, x2, x3, x4⟩ := tabOf_ok hP len 0 vs hv
    have hP' := hP.fst
    have hnd : nodupB (((parts.map fun (i, x) => (i, a.eval x)).toList).map (·.1)) = true := by rw [← hP']; exact c1
    have hall : ∀ p ∈ (parts.map fun (i, x) => (i, a.eval x)).toList, p.1 < (List.replicate len [z]).length ∧ p.2.cells.size = 1 := by
      intro p hp
      refine ⟨?_, by rw [hone p hp]; rfl⟩
      have hlp := look_of_mem hnd hp
      rcases hP.look p.1 with ⟨_, h2⟩ | ⟨v, x, h1, h2, h3⟩
      · rw [h2] at hlp; simp at hlp
      · have h5 := List.all_eq_true.1 c2 _ (look_mem h1)
        simp only [decide_eq_true_eq] at h5
        simpa using h5
    have hzc : z.cells.toList.length = 1 := by simpa using c8
    obtain ⟨f1, f2⟩ := fill_rows (parts.map fun (i, x) => (i, a.eval x)).toList (List.replicate len z.cells.toList) (sz := 1) (fun g hg => by rw [(List.mem_replicate.1 hg).2, hzc]) (fun p hp => by have := hall p hp; simpa using this)
    have hfl : fillL (List.replicate len z.cells.toList) (parts.map fun (i, x) => (i, a.eval x)).toList = xs.map fun x => [x] := by
      apply List.ext_getElem?
      intro j
      rcases Nat.lt_or_ge j len with hj | hj
      · rw [fillL_get _ _ hnd (by simpa using hj)]
        have := x4 j hj
        rw [Nat.zero_add] at this
        have hxj : xs[j]? = some (xs[j]'(by omega)) := List.getElem?_eq_getElem _
        rw [this, hxj]
        simp only [List.getElem?_map, hxj, Option.map_some]
        rw [hxj] at this
        have := hone _ (look_mem this)
        simp only at this
        rw [this]
      · rw [List.getElem?_eq_none, List.getElem?_eq_none]
        · simp [x2]; omega
        · rw [fillL_length]; simpa using hj
    rw [hfl, flatten_singles] at f1
    have s1 : 0 < i.size := by rw [hsz, c5]; exact Nat.one_pos
    have hrun : (Instr.buildSlice t len (parts.map fun (i, x) => (i, a.eval x))).run C.P w = .ok (.slice (some ⟨w.heap.size, 0, none⟩) len len) (w.alloc (.cells xs.toArray e)) := by
      have hr := run_buildSlice (P := C.P) w t e len (parts.map fun (i, x) => (i, a.eval x)) xs.toArray i z hu1 hi hz (by rw [hsz, c5]; omega) (by rw [hsz, c5]; omega)
        (by
          rw [hsz]
          have := range_cells z.cells (by omega) len
          rw [c8] at this
          rw [c5, c8, this]
          exact f1)
      exact hr
    have hb := below_alloc' w (.cells xs.toArray e)
    have hsim := h.ext hb
    have hs := h.below.size
    have hsize : (w.alloc (.cells xs.toArray e)).heap.size = w.heap.size + 1 := Array.size_push ..
    have hget : (w.alloc (.cells xs.toArray e)).heap[w.heap.size]? = some (.cells xs.toArray e) := Array.getElem?_push_size
    refine Good.value (r := ⟨[], .tab e vs, [], []⟩) (β' := β) (w' := w.alloc (.cells xs.toArray e)) (x := .slice (some ⟨w.heap.size, 0, none⟩) len len) ?_ hsim ?_
    · simp only [execOp, ho, hrun, Sem.run_bind, Sem.run_pure, Result.andThen_ok]
    · refine ⟨w.heap.size, len, xs, by rw [x3], .inr ⟨hs, by omega, ?_⟩, heap_range hget, ?_, he, c5, hrow, by omega⟩
      · rintro ⟨n, q, o', g1, g2, g3, g4⟩
        have := (h.rng n q o' _ g1 g2 g3 g4).2
        omega
      · refine RepSVs.keep ?_ ?_ x1
        · rintro b (hb' | ⟨g1, g2, g3⟩)
          · exact .inl hb'
          · exact .inr ⟨g1, by omega, g3⟩
        · intro b hb'
          exact heap_alloc_old w _ b (okk_size hs hb')

/-! ### A store through one of some addresses -/
theorem seg_unique {pre c post pre' c' post' : List Value} (h : pre ++ c ++ post = pre' ++ c' ++ post') (h1 : pre.length = pre'.length) (h2 : c.length = c'.length) : pre = pre' ∧ c = c' ∧ post = post' := by
  have e1 := List.append_inj h (by simp [h1, h2])
  have e2 := List.append_inj e1.1 h1
  exact ⟨e2.1, e2.2, e1.2⟩

theorem storeAlt_ok (H : COK C) {ok : Nat → Prop} {m tb t : Nat} {i xd : Ex} {xs : List Value} (hx : RepC C w ok (C.kd t) (xd.ev C.G ρ) xs) (hin : inTab C tb = true) : ∀ {l : List SV} {jj : Nat} {v v' : SV} {cs : List Value},
    storeAlt C m tb t i xd l jj v = some v' → RepSc C ρ β w ok v (C.kd tb) cs → 0 ≤ (i.ev C.G ρ).asI →
    (((i.ev C.G ρ).asI < jj) → RepSc C ρ β w ok v' (C.kd tb) cs) ∧
    (∀ q, (i.ev C.G ρ).asI = ((jj + q : Nat) : Int) → q < l.length → ∃ p, l[q]? = some (.bptr m p t) ∧ ∃ off pre c1 post, offP C tb p = some (off, t) ∧ cs = pre ++ c1 ++ post ∧ pre.length = off ∧ c1.length = xs.length ∧ RepSc C ρ β w ok v' (C.kd tb) (pre ++ xs ++ post))
  | [], jj, v, v', cs, h, hv, h0 => by
    simp only [storeAlt, Option.some.injEq] at h
    subst h
    exact ⟨fun _ => hv, fun q _ hq => by simp at hq⟩
  | .bptr m' p t' :: l, jj, v, v', cs, h, hv, h0 => by
    simp only [storeAlt] at h
    split at h
    · rename_i hmt
      obtain ⟨rfl, rfl⟩ := hmt
      split at h
      · rename_i k y t'' hp
        split at h
        · rename_i hkt
          obtain ⟨rfl, rfl⟩ := hkt
          cases hu : upd C v tb p (.dat (C.kd t'') (.tri .ite (.bin .ieq i (.int jj)) xd y)) with
          | none => simp [hu] at h
          | some v1 =>
            simp only [hu] at h
            obtain ⟨off, c1, o1, o2, o3⟩ := proj_ok H p hp hv
            obtain ⟨pre, post, e1, e2⟩ := o2
            have hy : RepC C w ok (C.kd t'') (y.ev C.G ρ) c1 := o3.2
            have hc1 := RepC.len H hy
            have hxl := RepC.len H hx
            have hite : (Ex.tri U3.ite (.bin .ieq i (.int jj)) xd y).ev C.G ρ = if (i.ev C.G ρ).asI = jj then xd.ev C.G ρ else y.ev C.G ρ := by
              simp only [Ex.ev, U3.ev, U2.ev, D.asB, D.asI, beq_iff_eq]
              by_cases hij : (i.ev C.G ρ).asI = (jj : Int)
              · simp only [D.asI] at hij ⊢; simp [hij]
              · simp only [D.asI] at hij ⊢; simp [hij]
            by_cases hij : (i.ev C.G ρ).asI = jj
            · -- here
              rw [if_pos hij] at hite
              have hnew : RepSc C ρ β w ok (.dat (C.kd t'') (.tri .ite (.bin .ieq i (.int jj)) xd y)) (C.kd t'') xs := ⟨rfl, by rw [hite]; exact hx⟩
              obtain ⟨pre', c1', post', u1, u2, u3, u4⟩ := upd_ok H p hu hv o1 hin hnew
              have hrest := (storeAlt_ok H hx hin h u4 h0).1 (by rw [hij]; omega)
              refine ⟨fun hlt => by omega, fun q hq hql => ?_⟩
              have : q = 0 := by rw [hij] at hq; omega
              subst this
              exact ⟨p, rfl, off, pre', c1', post', o1, u1, u2, u3, hrest⟩
            · rw [if_neg hij] at hite
              have hnew : RepSc C ρ β w ok (.dat (C.kd t'') (.tri .ite (.bin .ieq i (.int jj)) xd y)) (C.kd t'') c1 := ⟨rfl, by rw [hite]; exact hy⟩
              obtain ⟨pre', c1', post', u1, u2, u3, u4⟩ := upd_ok H p hu hv o1 hin hnew
              obtain ⟨s1, s2, s3⟩ := seg_unique (e1.symm.trans u1) (by omega) (by omega)
              subst s1; subst s2; subst s3
              rw [← e1] at u4
              obtain ⟨r1, r2⟩ := storeAlt_ok H hx hin h u4 h0
              refine ⟨fun hlt => r1 (by omega), fun q hq hql => ?_⟩
              obtain ⟨q', rfl⟩ : ∃ q', q = q' + 1 := ⟨q - 1, by
                have : q ≠ 0 := by rintro rfl; exact hij (by simpa using hq)
                omega⟩
              obtain ⟨p', g1, g2⟩ := r2 q' (by rw [hq]; congr 1; omega) (by simpa using hql)
              exact ⟨p', by simpa using g1, g2⟩
        · simp at h
      · simp at h
    · simp at h
  | .dat .. :: _, _, _, _, _, h, _, _ | .nils .. :: _, _, _, _, _, h, _, _ | .nil0 :: _, _, _, _, _, h, _, _ | .nilp :: _, _, _, _, _, h, _, _ | .sli .. :: _, _, _, _, _, h, _, _ | .fnc .. :: _, _, _, _, _, h, _, _ | .eptr .. :: _, _, _, _, _, h, _, _ | .agg .. :: _, _, _, _, _, h, _, _ | .tup .. :: _, _, _, _, _, h, _, _ | .tab .. :: _, _, _, _, _, h, _, _ | .tptr .. :: _, _, _, _, _, h, _, _ | .alt .. :: _, _, _, _, _, h, _, _ | .nilq _ :: _, _, _, _, _, h, _, _ | .gd .. :: _, _, _, _, _, h, _, _ | .junk :: _, _, _, _, _, h, _, _ => by simp [storeAlt] at h

theorem store_alt (H : COK C) (h : SimB C w0 ok0 ρ s β a w) (hpc : pcOK C.G ρ pc = true) (hob : ∀ m o, ob m = some o → obsOf s pc m = some o) {o : Oper} {t m tb : Nat} {i xd : Ex} {L : List SV} {x y : Operand} {v v' xv : SV} (ho : o.op = .store t x y)
    (hx : RepSV C ρ β w (okk C w0 ok0 ρ s β w) (.alt i L) (a.eval x)) (hy : RepSV C ρ β w (okk C w0 ok0 ρ s β w) xv (a.eval y)) (hm : ob m = some (.box tb v)) (hd : toD C ob depth (C.kd t) xv = some (xd, []))
    (hu : storeAlt C m tb t i xd L 0 v = some v') {l : List Pre} : Good C w0 ok0 ρ s pc o ⟨l, .junk, [(m, .box tb v')], []⟩ a w := by
  have hobR : ∀ m o, ob m = some o → RepOb C w0 ρ β w (okk C w0 ok0 ρ s β w) m o := fun m o hm => by
    obtain ⟨q, g1, g2⟩ := obsOf_some (hob m o hm)
    exact h.ob m q o g1 (subPC_ok g2 hpc)
  obtain ⟨q, h1, h2⟩ := obsOf_some (hob m _ hm)
  have hq := subPC_ok h2 hpc
  obtain ⟨g1, g2, cs, E, g3, g4⟩ := h.ob m q _ h1 hq
  have hs := h.below.size
  have hrng := h.rng m q _ (β.bk m) h1 hq rfl (Blk_box.2 rfl)
  obtain ⟨vs, e1, e2, e3⟩ := hx
  have hvl := RepSVs.len e1
  have hlt : (i.ev C.G ρ).asI.toNat < L.length := by
    rw [← hvl]
    rcases Nat.lt_or_ge (i.ev C.G ρ).asI.toNat vs.length with hh | hh
    · exact hh
    · rw [List.getElem?_eq_none hh] at e3; simp at e3
  obtain ⟨xs, x1, x2⟩ := (toD_all H hobR depth).2.1 _ _ _ _ _ hd hy
  have x1' : RepC C w (okk C w0 ok0 ρ s β w) (C.kd t) (xd.ev C.G ρ) xs := x1.keep (fun b hb => by
    rcases hb with hb | ⟨m', hm', _⟩
    · exact hb
    · simp at hm') fun _ _ => rfl
  obtain ⟨p, p1, off, pre, c1, post, o1, k1, k2, k3, k4⟩ := (storeAlt_ok H x1' g2 hu g4 e2).2 (i.ev C.G ρ).asI.toNat (by rw [Nat.zero_add]; omega) hlt
  obtain ⟨u, e4, e5⟩ := RepSVs.get e1 p1
  rw [e3] at e4
  simp only [Option.some.injEq] at e4
  obtain ⟨off', o2, o3⟩ := e5
  rw [g1, o1] at o2
  simp only [Option.some.injEq, Prod.mk.injEq, and_true] at o2
  subst o2
  have hax : a.eval x = .pointer (some ⟨β.bk m, off, none⟩) := by rw [e4, o3]
  have ht := offP_inTab H p g2 o1
  have hxl := RepC.len H x1
  rw [kd_size H ht] at hxl
  subst k1
  obtain ⟨i1, i2, i3, i4, i5, i6⟩ := setCells_row (β.bk m) E xs off w pre c1 post g3 k2 k3
  have hrun := store_run (w := w) (b := β.bk m) (o := off) H ht hxl x1.one (RepC.cells H x1) (by rw [← k2, ← k3]; exact there_of g3)
  have hsim : SimB C w0 ok0 ρ (s.upd pc [(m, .box tb v')]) β a (w.setCells (β.bk m) off xs) := by
    refine h.up1 (o := .box tb v') hpc (h.below.trans (Below.setCells i4 i5 i6 i3 hrng.1 i2)) (by omega) (fun b => b = β.bk m) ?_ ?_ ?_ (fun _ _ _ _ _ hv => hv) (fun _ _ _ _ _ _ hv => hv) (fun _ _ _ _ _ => rfl) ?_
    · rintro b rfl
      exact ⟨⟨m, q, _, h1, hq, rfl, Blk_box.2 rfl⟩, fun n q' o' hn hq' hm' hb' => h.sep n m q' q o' _ _ hn h1 hq' hq hm' rfl hb' (Blk_box.2 rfl)⟩
    · intro b hb hne
      exact i2 b fun e => hne (by rw [e])
    · intro b _ hb
      rw [Blk_box] at hb
      subst hb
      have := hrng.2
      exact ⟨.inl rfl, by show β.bk m < _; omega⟩
    · intro ok' hok
      refine ⟨g1, g2, pre ++ xs ++ post, E, i1, k4.keep hok fun b hb => i2 b ?_⟩
      rintro rfl
      exact okk_mut h hb ⟨m, q, _, h1, hq, rfl, Blk_box.2 rfl⟩
  refine Good.unit (r := ⟨l, .junk, [(m, .box tb v')], []⟩) ?_ hsim rfl
  simp [execOp, ho, hax, x2, hrun]

/-! ### A call of one of some functions -/
theorem altFns_get {ks rs : List K} {own : List Bool} {n : Nat} : ∀ {l : List SV} {fs : List Ex}, altFns C ob ks rs own n l = some fs → ∀ {j : Nat} {v : SV}, l[j]? = some v →
    ∃ f a b sg e1 n1 e2 n2, v = .fnc f a b ∧ C.sigs f = some sg ∧ sg.params = sg.params.take a.length ++ ks ++ sg.params.drop (a.length + n) ∧ sg.results = rs ∧ sg.own = own ∧ toDs C ob depth (sg.params.take a.length) a = some (e1, n1) ∧ toDs C ob depth (sg.params.drop (a.length + n)) b = some (e2, n2) ∧
      mutAll ob n1 = true ∧ mutAll ob n2 = true ∧ fs[j]? = some (.fn f (exList e1) (exList e2))
  | [], fs, h, j, v, hj => by simp at hj
  | .fnc f a b :: l, fs, h, j, v, hj => by
    simp only [altFns] at h
    cases hs : C.sigs f with
    | none => simp [hs] at h
    | some sg =>
      simp only [hs] at h
      split at h
      · rename_i hc
        split at h
        · rename_i e1 n1 e2 n2 r t1 t2 t3
          split at h
          · rename_i hm
            simp only [Bool.and_eq_true] at hm
            simp only [Option.some.injEq] at h
            subst h
            cases j with
            | zero =>
              simp only [List.getElem?_cons_zero, Option.some.injEq] at hj
              subst hj
              exact ⟨f, a, b, sg, e1, n1, e2, n2, rfl, hs, hc.1, hc.2.1, hc.2.2, t1, t2, hm.1, hm.2, rfl⟩
            | succ j => exact altFns_get t3 (by simpa using hj)
          · simp at h
        · simp at h
      · simp at h
  | .dat .. :: _, _, h, _, _, _ | .nils .. :: _, _, h, _, _, _ | .nil0 :: _, _, h, _, _, _ | .nilp :: _, _, h, _, _, _ | .sli .. :: _, _, h, _, _, _ | .bptr .. :: _, _, h, _, _, _ | .eptr .. :: _, _, h, _, _, _ | .agg .. :: _, _, h, _, _, _ | .tup .. :: _, _, h, _, _, _ | .tab .. :: _, _, h, _, _, _ | .tptr .. :: _, _, h, _, _, _ | .alt .. :: _, _, h, _, _, _ | .nilq _ :: _, _, h, _, _, _ | .gd .. :: _, _, h, _, _, _ | .junk :: _, _, h, _, _, _ => by simp [altFns] at h

theorem callA_ok (H : COK C) (HG : GOK C w0 ok0) (Hok : ∀ b, ok0 b → b < w0.heap.size) (h : SimB C w0 ok0 ρ s β a w) (hpc : pcOK C.G ρ pc = true) (hob : ∀ m o, ob m = some o → obsOf s pc m = some o) {o : Oper} {c : Call} {fe : Operand} {n : Nat} {i : Ex} {l args : List SV} {Γ : Fns} {r : Res}
    (ho : o.op = .call c) (hc : c.callee = .value fe) (hfe : RepSV C ρ β w (okk C w0 ok0 ρ s β w) (.alt i l) (a.eval fe)) (hargs : RepSVs C ρ β w (okk C w0 ok0 ρ s β w) args (c.args.toList.map a.eval))
    (hr : callA C ob n (o.dst.getD 0) o.dst.isNone i l args = some r) (HS : ∀ f, Sound C f (Γ f)) (hup : r.up.all (upOK s pc) = true) (hnw : r.nw.all (fun m => (look s.ob m).isNone) = true)
    (hpre : ∀ m g es, r.pre = [.callv m g es] → ∃ rs, callD Γ (g.ev C.G ρ) (evs C.G ρ es) = some rs ∧ ∀ j d, rs[j]? = some d → j < m → at_ ρ (n + j) = d) : Good C w0 ok0 ρ s pc o r a w := by
  have hobR : ∀ m o, ob m = some o → RepOb C w0 ρ β w (okk C w0 ok0 ρ s β w) m o := fun m o hm => by
    obtain ⟨q, g1, g2⟩ := obsOf_some (hob m o hm)
    exact h.ob m q o g1 (subPC_ok g2 hpc)
  have hs := h.below.size
  have hG : ∀ (ok : Nat → Prop), (∀ b, ok0 b → ok b) → GOK C w ok := fun ok hk => HG.keep hk fun b hb => h.below.block b (Hok b hb)
  obtain ⟨xs, e1, e2, e3⟩ := hfe
  unfold callA at hr
  split at hr
  · rename_i f0 a0 b0 l0
    cases hsg : C.sigs f0 with
    | none => simp [hsg] at hr
    | some sg0 =>
      simp only [hsg] at hr
      split at hr
      · rename_i es ns fs hd hfs
        cases hv : (if o.dst.isNone = true then some ([], []) else resVs C (o.dst.getD 0) n sg0.results sg0.own 0) with
        | none => rw [hv] at hr; simp at hr
        | some y =>
          obtain ⟨svs, ups⟩ := y
          rw [hv] at hr
          simp only at hr
          split at hr
          · simp at hr
          rename_i hlen
          split at hr
          · rename_i hfresh
            simp only [Bool.and_eq_true] at hfresh
            simp only [Option.some.injEq] at hr
            subst hr
            obtain ⟨rs, q1, q2⟩ := hpre _ _ _ rfl
            -- which one
            have hvl := RepSVs.len e1
            have hlt : (i.ev C.G ρ).asI.toNat < (SV.fnc f0 a0 b0 :: l0).length := by
              rw [← hvl]
              rcases Nat.lt_or_ge (i.ev C.G ρ).asI.toNat xs.length with hh | hh
              · exact hh
              · rw [List.getElem?_eq_none hh] at e3; simp at e3
            obtain ⟨f, av, bv, sg, x1, n1, x2, n2, hve, hsf, hp1, hp2, hp3, t1, t2, m1, m2, hfj⟩ := altFns_get hfs (List.getElem?_eq_getElem hlt)
            obtain ⟨u, e4, e5⟩ := RepSVs.get e1 (List.getElem?_eq_getElem hlt)
            rw [e3] at e4
            simp only [Option.some.injEq] at e4
            subst e4
            rw [hve] at e5
            obtain ⟨v1, v2, e6, e7, e8⟩ := e5
            have hrun := run_enter (w := w) H ho hc hsf e6
            have hfe' : (Ex.bin .idx (exList fs) i).ev C.G ρ = .fn f (evs C.G ρ x1) (evs C.G ρ x2) := by
              simp only [Ex.ev, U2.ev, exList_ev, D.asL]
              rw [at_get (evs_get0 hfj)]
              simp only [Ex.ev, exList_ev, D.asL]
            rw [hfe'] at q1
            simp only [callD] at q1
            have allw : ∀ ms, mutAll ob ms = true → ∀ b, ok2 β (okk C w0 ok0 ρ s β w) ob ms b → b < w.heap.size := by
              intro ms hms b hb
              rcases hb with hb | ⟨m, hm, o', g1, g2⟩
              · exact okk_size hs hb
              · obtain ⟨q, g3, g4⟩ := obsOf_some (hob m o' g1)
                have hmu := List.all_eq_true.1 hms m hm
                rw [g1] at hmu
                cases o' with
                | box t v => exact (h.rng m q _ b g3 (subPC_ok g4 hpc) rfl g2).2
                | arr e c ver => exact (h.rng m q _ b g3 (subPC_ok g4 hpc) rfl g2).2
                | fbox t c => simp at hmu
                | farr e c ver => simp at hmu
                | narr _ _ _ _ _ _ => first | (simp at hmu; done) | exact (h.rng m q _ b g3 (subPC_ok g4 hpc) rfl g2).2
            have hargs' : RepVs C w (fun b => b < w.heap.size) sg.params (evs C.G ρ x1 ++ evs C.G ρ es ++ evs C.G ρ x2) (v1 ++ c.args.toList.map a.eval ++ v2) := by
              rw [hp1]
              exact RepVs.append (RepVs.append (((toD_all H hobR depth).2.2.2 _ _ _ _ _ t1 e7).keep (allw _ m1) fun _ _ => rfl) (((toD_all H hobR depth).2.2.2 _ _ _ _ _ hd hargs).keep (allw _ hfresh.2) fun _ _ => rfl)) (((toD_all H hobR depth).2.2.2 _ _ _ _ _ t2 e8).keep (allw _ m2) fun _ _ => rfl)
            have hnew : ∀ x ∈ ups, slFree x.1 s.sl = true ∧ obFree x.1 s.ob = true := fun x hx => by
              have k1 := List.all_eq_true.1 hup x hx
              have k2 := List.all_eq_true.1 hnw x.1 (List.mem_map.2 ⟨x, hx, rfl⟩)
              have := upOK_new (m := x.1) (o := x.2) k1 (by simpa using k2)
              exact ⟨this.1, this.2.1⟩
            refine Good.enter hrun (HS f sg hsf _ _ q1 w (fun b => b < w.heap.size) _ (hG _ fun b hb => Nat.lt_of_lt_of_le (Hok b hb) hs) (fun b hb => hb) hargs') ?_
            intro okr vs w' g1 g2 g3
            rw [hp2, hp3] at g3
            have g3' := g3.flat (okr' := fun _ => False) hfresh.1 fun b _ hb => hb
            cases hcond : o.dst.isNone with
            | true =>
              rw [hcond] at hv
              simp only [if_true, Option.some.injEq, Prod.mk.injEq] at hv
              obtain ⟨rfl, rfl⟩ := hv
              exact ⟨β, h.ext g1, trivial⟩
            | false =>
              rw [hcond] at hv
              simp only [Bool.false_eq_true, if_false] at hv
              obtain ⟨β', k1, k2⟩ := back_ok h hpc g1 (fun b hb => hb.elim) g3' hv (fun j d hj => q2 j d hj (by have := (List.getElem?_eq_some_iff.1 hj).1; rw [g3.len.1] at this; exact this)) hlen hnew
              exact ⟨β', k1, by simpa using oneV_ok k2⟩
          · simp at hr
      · simp at hr
  · simp at hr
end
end Sy

/- Rows whose elements have rows of their own: made, read, grown, written. -/
namespace Sy
open Go Go.RowKit

theorem chunk_at {pre mid post : List Value} {j sz : Nat} (hp : pre.length = j * sz) (hm : mid.length = sz) : ((pre ++ mid ++ post).drop (j * sz)).take sz = mid := by
  rw [List.append_assoc, ← hp, List.drop_left, ← hm, List.take_left]
theorem chunk_other {pre mid mid' post : List Value} {j k sz : Nat} (hp : pre.length = j * sz) (hm : mid.length = sz) (hm' : mid'.length = sz) (hk : k ≠ j) :
    ((pre ++ mid' ++ post).drop (k * sz)).take sz = ((pre ++ mid ++ post).drop (k * sz)).take sz := by
  apply List.ext_getElem?
  intro i
  rw [List.getElem?_take, List.getElem?_take]
  split
  · rename_i hi
    rw [List.getElem?_drop, List.getElem?_drop]
    rcases Nat.lt_or_gt_of_ne hk with h | h
    · have : (k + 1) * sz ≤ j * sz := Nat.mul_le_mul_right _ h
      rw [Nat.add_mul, Nat.one_mul] at this
      rw [List.append_assoc, List.append_assoc, List.getElem?_append_left (by omega), List.getElem?_append_left (by omega)]
    · have : (j + 1) * sz ≤ k * sz := Nat.mul_le_mul_right _ h
      rw [Nat.add_mul, Nat.one_mul] at this
      rw [List.getElem?_append_right (by simp; omega), List.getElem?_append_right (by simp; omega)]
      simp [hm, hm']
  · rfl
theorem chunk_cut (cs : List Value) {j n sz : Nat} (hl : cs.length = n * sz) (hj : j < n) : ∃ pre post, cs = pre ++ (cs.drop (j * sz)).take sz ++ post ∧ pre.length = j * sz ∧ ((cs.drop (j * sz)).take sz).length = sz := by
  have : (j + 1) * sz ≤ n * sz := Nat.mul_le_mul_right _ hj
  rw [Nat.add_mul, Nat.one_mul] at this
  refine ⟨cs.take (j * sz), cs.drop (j * sz + sz), ?_, by rw [List.length_take]; omega, by rw [List.length_take, List.length_drop]; omega⟩
  have e1 := (List.take_append_drop (j * sz) cs).symm
  have e2 := (List.take_append_drop sz (cs.drop (j * sz))).symm
  rw [List.drop_drop] at e2
  rw [e2] at e1
  simpa [List.append_assoc] using e1

section
variable {C : Ctx} {w0 : World} {ok0 : Nat → Prop} {ρ : List D} {s : S} {β : Be} {a : Act} {w : World} {pc : PC} {ob : Obs}

theorem RepF.split {ok : Nat → Prop} {fs : List Nat} {ds : List D} {cs : List Value} (h : RepF C w ok fs ds cs) : ∀ {f tf : Nat}, fs[f]? = some tf →
    ∃ y pre c1 post, ds[f]? = some y ∧ cs = pre ++ c1 ++ post ∧ RepF C w ok (fs.take f) (ds.take f) pre ∧ RepC C w ok (C.kd tf) y c1 ∧ RepF C w ok (fs.drop (f + 1)) (ds.drop (f + 1)) post := by
  induction fs generalizing ds cs with
  | nil => intro f tf h; simp at h
  | cons t ts ih =>
    cases h with
    | cons hc hl =>
      rename_i d l c c'
      intro f tf hf
      cases f with
      | zero =>
        simp only [List.getElem?_cons_zero, Option.some.injEq] at hf
        subst hf
        exact ⟨d, [], c, c', rfl, by simp, .nil, hc, hl⟩
      | succ f =>
        obtain ⟨y, pre, c1, post, g1, g2, g3, g4, g5⟩ := ih hl (f := f) (by simpa using hf)
        exact ⟨y, c ++ pre, c1, post, by simpa using g1, by rw [g2]; simp [List.append_assoc], .cons hc g3, g4, g5⟩

/-- An element with a nil row. -/
theorem nelem_nil (H : COK C) {ok ok' : Nat → Prop} {e f x x' tf : Nat} {fs : List Nat} {l : List SV} {d : D} {cs : List Value} (hR : RepC C w ok (.struct e) d cs) (hS : RepScs C ρ β w ok' l fs cs) (hfs : C.fields e = some fs) (hft : fs[f]? = some tf)
    (hk : C.kd tf = .slice x) (hl : l[f]? = some (.nils x')) : NElem C w0 w ok e f none d cs (.slice none 0 0) := by
  obtain ⟨_, gs, _, _, _, h4, _⟩ := fields_fact H hfs
  have hin := offs_in h4
  cases hR with
  | struct h hf =>
    rw [hfs] at h
    simp only [Option.some.injEq] at h
    subst h
    obtain ⟨y, pre, c1, post, g1, g2, g3, g4, g5⟩ := hf.split hft
    obtain ⟨ft', pre', c1', post', k1, k2, k3, k4, _⟩ := RepScs.get H hS hin hl
    have hlen : pre.length = pre'.length := by rw [k3, RepF.len H g3 fun t ht => hin t (List.mem_of_mem_take ht)]
    have hc1 : c1.length = 1 := by rw [RepC.len H g4, hk]; rfl
    obtain ⟨_, rfl⟩ := k4
    rw [g2, List.append_assoc, List.append_assoc] at k2
    obtain ⟨e1, e2⟩ := List.append_inj k2 hlen
    obtain ⟨e3, e4⟩ := List.append_inj e2 (by rw [hc1]; rfl)
    subst e3
    have hy : y = .list [] := by
      rw [hk] at g4
      generalize hv : [Value.slice none 0 0] = v at g4
      cases g4 with
      | nils => rfl
      | slice => simp at hv
    subst hy
    exact ⟨fs, tf, x, _, pre, _, post, _, hfs, hft, hk, (slice_fact H hk).2.1, rfl, g1, by rw [g2]; simp, g3, g5, ⟨_, _, _, rfl⟩, rfl, [], [], rfl, .nil, by simp [maxN], World.ownsRow_nil ..⟩

theorem makeN_ok (H : COK C) (h : SimB C w0 ok0 ρ s β a w) (hpc : pcOK C.G ρ pc = true) {o : Oper} {t m e f d : Nat} {x y : Operand} {lx cx z : Ex} (ho : o.op = .makeSlice t x y) (hk : C.kd t = .slice e) (hz : C.zero e = some z) (hnest : C.nestOf d e = some f)
    (hx : RepV C w (okk C w0 ok0 ρ s β w) (.int .i64) (lx.ev C.G ρ) (a.eval x)) (hy : RepV C w (okk C w0 ok0 ρ s β w) (.int .i64) (cx.ev C.G ρ) (a.eval y)) (hc : (Ex.bin (.ble maxN) lx cx).ev C.G ρ = .bool true)
    (hu : upOK s pc (m, .narr e f (.bin .rep lx z) 0 1 none) = true) (hn : look s.ob m = none) {l : List Pre} : Good C w0 ok0 ρ s pc o ⟨l, .sli m 0 e, [(m, .narr e f (.bin .rep lx z) 0 1 none)], [m]⟩ a w := by
  obtain ⟨n1, e1, v1, _⟩ := RepV.int hx
  obtain ⟨n2, e2, v2, _⟩ := RepV.int hy
  simp only [Ex.ev, U2.ev, e1, e2, D.asI, D.bool.injEq, decide_eq_true_eq] at hc
  obtain ⟨c1, c2, c3⟩ := hc
  have he := zero_inTab hz
  obtain ⟨i, zv, h1, h2, _⟩ := zero_ok (ρ := ρ) (w := w) (ok := fun _ => True) H hz
  obtain ⟨i', h1', hsz, hby⟩ := info_fact H he
  rw [h1] at h1'
  simp only [Option.some.injEq] at h1'
  subst h1'
  obtain ⟨hu1, _, _⟩ := slice_fact H hk
  have hbytes : (i.bytes : Int) * n2 ≤ 281474976710656 := by
    unfold maxN at c3
    have : (i.bytes : Int) * n2 ≤ 4096 * 34359738368 := Int.mul_le_mul (by omega) (by omega) (by omega) (by omega)
    omega
  unfold maxN at c3
  have hrun := run_make (P := C.P) w t e i zv hu1 h1 h2 .i64 .i64 n1 n2 c1 c2 hbytes (by omega)
  obtain ⟨f1, f2, _⟩ := upOK_new hu hn
  have hzc : ∀ (w : World) ok, RepC C w ok (C.kd e) (z.ev C.G ρ) zv.cells.toList := fun w ok => by
    obtain ⟨i2, z2, g1, g2, g3⟩ := zero_ok (ρ := ρ) (w := w) (ok := ok) H hz
    rw [h1] at g1
    simp only [Option.some.injEq] at g1
    subst g1
    rw [h2] at g2
    simp only [Option.some.injEq] at g2
    subst g2
    exact g3
  have hzl : zv.cells.toList.length = i.size := by
    rw [RepC.len H (hzc w fun _ => True), kd_size H he, hsz]
  have hpos := tsz_pos H he
  have hmc : (madeCells zv.cells (n2.toNat * i.size)).toList = (List.replicate n2.toNat zv.cells.toList).flatten := by
    have := madeCells_eq zv.cells.toList (by omega) n2.toNat
    rw [hzl, Array.toArray_toList] at this
    exact this
  -- the zero element
  have hel : ∀ (w' : World) ok, NElem C w0 w' ok e f none (z.ev C.G ρ) zv.cells.toList (.slice none 0 0) := fun w' ok => by
    unfold Ctx.nestOf at hnest
    split at hnest
    · rename_i e' f' hlook
      split at hnest
      · rename_i hee
        split at hnest
        · rename_i fs t' L hfs hzv
          split at hnest
          · rename_i tf x' hft hlf
            split at hnest
            · rename_i hkt
              obtain ⟨hkt, rfl⟩ := hkt
              simp only [Option.some.injEq] at hnest
              subst hnest
              obtain ⟨i3, z3, q1, q2, q3⟩ := zeroV_ok (ρ := ρ) (β := β) (w := w') (ok := ok) H hzv
              rw [h1] at q1
              simp only [Option.some.injEq] at q1
              subst q1
              rw [h2] at q2
              simp only [Option.some.injEq] at q2
              subst q2
              have hR := hzc w' ok
              obtain ⟨_, fs', q4, q5⟩ := q3
              rw [hfs] at q4
              simp only [Option.some.injEq] at q4
              subst q4
              rw [fields_kd hfs] at hR
              exact nelem_nil H hR q5 hfs hft hkt hlf
            · simp at hnest
          · simp at hnest
        · simp at hnest
      · simp at hnest
    · simp at hnest
  have hb := below_alloc' w (.cells (madeCells zv.cells (n2.toNat * i.size)) e)
  have hown : (w.alloc (.cells (madeCells zv.cells (n2.toNat * i.size)) e)).ownsRow w.heap.size e (C.tsz e) (.slice (some ⟨w.heap.size, 0, none⟩) n1.toNat n2.toNat) n1.toNat (List.replicate n1.toNat zv.cells.toList).flatten := by
    refine ⟨by simp [← hsz, hzl], .inr ⟨w.heap.size, n2.toNat, _, by simp, Nat.le_refl _, heap_alloc_new w _, by omega, by simp only [maxLen]; omega, by simp [size_madeCells, hsz], ?_⟩⟩
    rw [hmc, ← hsz, ← hzl]
    exact flatten_replicate_take _ _ (by omega)
  have hs := h.below.size
  let β' : Be := { bk := β.bk, vl := fun n v => if n = m then (if v = 0 then .slice (some ⟨w.heap.size, 0, none⟩) n1.toNat n2.toNat else .agg (Array.replicate n1.toNat (.slice none 0 0))) else β.vl n v, ty := fun n => if n = m then e else β.ty n }
  have hag : Be.agree m β β' := fun n hn => by simp [β', hn]
  have hv0 : β'.vl m 0 = .slice (some ⟨w.heap.size, 0, none⟩) n1.toNat n2.toNat := by simp [β']
  have hv1 : β'.vl m 1 = .agg (Array.replicate n1.toNat (.slice none 0 0)) := by simp [β']
  have hrep : ∀ (j : Nat) (r : Value), (Array.replicate n1.toNat (Value.slice none 0 0))[j]? = some r → r = .slice none 0 0 := by
    intro j r hr
    rw [Array.getElem?_replicate] at hr
    split at hr
    · simp only [Option.some.injEq] at hr; exact hr.symm
    · simp at hr
  have hsim : SimB C w0 ok0 ρ (s.upd pc [(m, .narr e f (.bin .rep lx z) 0 1 none)]) β' a (w.alloc (.cells (madeCells zv.cells (n2.toNat * i.size)) e)) := by
    refine h.freshG (o := .narr e f (.bin .rep lx z) 0 1 none) hag hpc f1 f2 hb ?_ ?_
    · intro x' _ hx'
      rw [Blk_narr, hv0, hv1] at hx'
      rcases hx' with hx' | ⟨rows, hr1, j, r, hr2, hr3⟩
      · exact hown.lt x' hx'
      · simp only [Value.agg.injEq] at hr1
        subst hr1
        rw [hrep j r hr2] at hr3
        simp [Value.ownBlock] at hr3
    · intro ok' hok
      refine ⟨by simp [β'], he, List.replicate n1.toNat (z.ev C.G ρ), (List.replicate n1.toNat zv.cells.toList).flatten, Array.replicate n1.toNat (.slice none 0 0), by simp [Ex.ev, U2.ev, e1, D.asI], by simp [maxN]; omega, ?_, hv1, by simp, ?_, ?_, ?_⟩
      · rw [hv0, List.length_replicate]
        refine ⟨hown.1, hown.2.imp id ?_⟩
        rintro ⟨g, cap, cur, k1, k2, k3⟩
        exact ⟨g, cap, cur, k1, Nat.le_trans hs k2, k3⟩
      · intro j d' r hj hr
        have hjl : j < n1.toNat := by
          have := (List.getElem?_eq_some_iff.1 hj).1
          simpa using this
        rw [hrep j r hr]
        have hd' : d' = z.ev C.G ρ := by
          rw [List.getElem?_replicate, if_pos hjl] at hj
          simp only [Option.some.injEq] at hj
          exact hj.symm
        subst hd'
        have hch : (((List.replicate n1.toNat zv.cells.toList).flatten).drop (j * C.tsz e)).take (C.tsz e) = zv.cells.toList := by
          have e4 : List.replicate n1.toNat zv.cells.toList = List.replicate j zv.cells.toList ++ (zv.cells.toList :: List.replicate (n1.toNat - j - 1) zv.cells.toList) := by
            rw [← List.replicate_succ, List.replicate_append_replicate]
            congr 1
            omega
          rw [e4, List.flatten_append, List.flatten_cons, ← List.append_assoc]
          exact chunk_at (by simp [hzl, hsz]) (by rw [hzl, hsz])
        rw [hch]
        exact hel _ ok'
      · intro i' j r r' b hr hr' hb1 _
        rw [hrep i' r hr] at hb1
        simp [Value.ownBlock] at hb1
      · intro j r b hr hb1
        rw [hrep j r hr] at hb1
        simp [Value.ownBlock] at hb1
  refine Good.value (r := ⟨l, .sli m 0 e, [(m, .narr e f (.bin .rep lx z) 0 1 none)], [m]⟩) (x := .slice (some ⟨w.heap.size, 0, none⟩) n1.toNat n2.toNat) ?_ hsim ?_
  · simp only [execOp, ho]
    simp [v1, v2, hrun]
  · exact ⟨hv0.symm, by rw [hv0]; exact ⟨_, _, _, rfl⟩⟩

/-- An object that may be written is renewed. -/
theorem SimB.renew (h : SimB C w0 ok0 ρ s β a w) (hpc : pcOK C.G ρ pc = true) {m : Nat} {q : PC} {o0 o : Ob} (h1 : look s.ob m = some (q, o0)) (hq : pcOK C.G ρ q = true) (h0 : o0.mut = true) {β' : Be} {w' : World}
    (hβ : β' = β ∨ ∃ vr, Be.agreeV m vr β β' ∧ slFreeV m vr s.sl = true ∧ obFreeV m vr s.ob = true) (hbel : Below w0.heap.size w0 w') (hsz : w.heap.size ≤ w'.heap.size)
    (hmem : ∀ b, b < w.heap.size → ¬ Blk β m o0 b → w'.heap[b]? = w.heap[b]?) (hnew : ∀ b, o.mut = true → Blk β' m o b → (Blk β m o0 b ∨ w.heap.size ≤ b) ∧ b < w'.heap.size)
    (hR : ∀ ok', (∀ b, okk C w0 ok0 ρ s β w b → ok' b) → RepOb C w0 ρ β' w' ok' m o) : SimB C w0 ok0 ρ (s.upd pc [(m, o)]) β' a w' := by
  refine h.up1 (o := o) hpc hbel hsz (fun b => Blk β m o0 b) (fun b hb => ⟨⟨m, q, o0, h1, hq, h0, hb⟩, fun n q' o' hn hq' hm' hb' => h.sep n m q' q o' o0 b hn h1 hq' hq hm' h0 hb' hb⟩) hmem hnew ?_ ?_ ?_ hR
  · intro ok t' v0 x0 hl hv0
    rcases hβ with rfl | ⟨vr, hag, hf, _⟩
    · exact hv0
    · exact RepSV.otherV hag (slFreeV_look hf hl) hv0
  · intro ok n q' o' hn hl hv0
    rcases hβ with rfl | ⟨vr, hag, _, hf⟩
    · exact hv0
    · exact RepOb.otherV hag hn (obFreeV_look hf hl) hv0
  · intro n q' o' hn hl
    rcases hβ with rfl | ⟨vr, hag, _, _⟩
    · rfl
    · exact Blk_otherV hag hn

/-- What the check says of a renewed row of rows. -/
theorem upOK_narr {m : Nat} {q : PC} {e f e' f' ver rv ver' rv' : Nat} {c c' : Ex} {hole hole' : Option (Ex × Ex)} (h : upOK s pc (m, .narr e' f' c' ver' rv' hole') = true) (hn : look s.ob m = some (q, .narr e f c ver rv hole)) :
    ver' = ver ∧ ver ≠ rv + 1 ∧ (rv' = rv ∨ (rv' = rv + 1 ∧ slFreeV m rv' s.sl = true ∧ obFreeV m rv' s.ob = true)) := by
  unfold upOK at h
  simp only [hn, Bool.and_eq_true, Bool.or_eq_true, decide_eq_true_eq] at h
  obtain ⟨_, ⟨h1, h2⟩, h3⟩ := h
  exact ⟨h1, h2, h3.imp id fun h => ⟨h.1.1, h.1.2, h.2⟩⟩
/-- The other rows are told anew. -/
def Be.rowsAt (β : Be) (m rv : Nat) (rows : Array Value) : Be := { bk := β.bk, vl := fun n v => if n = m ∧ v = rv then .agg rows else β.vl n v, ty := β.ty }
theorem Be.rowsAt_agree (β : Be) (m rv : Nat) (rows : Array Value) : Be.agreeV m rv β (β.rowsAt m rv rows) := ⟨rfl, rfl, fun n v hnv => by
  show (if n = m ∧ v = rv then _ else β.vl n v) = _
  rw [if_neg]
  rintro ⟨rfl, rfl⟩
  simp at hnv⟩
theorem Be.rowsAt_main (β : Be) (m rv ver : Nat) (rows : Array Value) (h : ver ≠ rv) : (β.rowsAt m rv rows).vl m ver = β.vl m ver := (Be.rowsAt_agree β m rv rows).2.2 m ver (.inr h)
theorem Be.rowsAt_rows (β : Be) (m rv : Nat) (rows : Array Value) : (β.rowsAt m rv rows).vl m rv = .agg rows := by
  show (if m = m ∧ rv = rv then _ else _) = _
  simp

/-- A part of an element is written: where it lies, and what is there behind it. -/
theorem own_part {b e n cap sz : Nat} {w : World} {cs pre mid mid' post : List Value} {base : Nat} (h : w.ownsRow base e sz (.slice (some ⟨b, 0, none⟩) n cap) n cs) (hc : cs = pre ++ mid ++ post) (hl : mid'.length = mid.length) :
    w.there b pre.length mid'.length ∧ (w.setCells b pre.length mid').ownsRow base e sz (.slice (some ⟨b, 0, none⟩) n cap) n (pre ++ mid' ++ post) ∧ (∀ k, k ≠ b → (w.setCells b pre.length mid').heap[k]? = w.heap[k]?) ∧ (w.setCells b pre.length mid').heap.size = w.heap.size ∧
    (w.setCells b pre.length mid').os = w.os ∧ (w.setCells b pre.length mid').tape = w.tape ∧ (w.setCells b pre.length mid').output = w.output := by
  obtain ⟨hcl, hnil | ⟨g, cap', cur, q1, q2, q3, q4, q5, q6, q7⟩⟩ := h
  · simp at hnil
  simp only [Value.slice.injEq, Option.some.injEq, Addr.mk.injEq, and_true] at q1
  obtain ⟨rfl, _, rfl⟩ := q1
  have hcur : cur.toList = pre ++ mid ++ (post ++ cur.toList.drop (n * sz)) := by
    refine (List.take_append_drop (n * sz) cur.toList).symm.trans ?_
    rw [q7, hc]
    simp only [List.append_assoc]
  have hheap : w.heap[b]? = some (.cells (pre ++ mid ++ (post ++ cur.toList.drop (n * sz))).toArray e (0, 0)) := by
    rw [q3, ← hcur, Array.toArray_toList]
  obtain ⟨i1, i2, i3, i4, i5, i6⟩ := setCells_row b e mid' pre.length w pre mid _ hheap rfl hl.symm
  have hlen : (pre ++ mid' ++ post).length = cs.length := by rw [hc]; simp [hl]
  refine ⟨by rw [hl]; exact there_of hheap, ⟨by rw [hlen, hcl], .inr ⟨b, cap, _, rfl, q2, i1, q4, q5, ?_, ?_⟩⟩, i2, i3, i4, i5, i6⟩
  · have := congrArg List.length hcur
    simp only [List.length_append, Array.length_toList] at this
    simp only [List.size_toArray, List.length_append, ← q6]
    omega
  · rw [← hcl, ← hlen]
    generalize cur.toList.drop _ = R
    have : (pre ++ mid' ++ (post ++ R)).toArray.toList = (pre ++ mid' ++ post) ++ R := by simp [List.append_assoc]
    rw [this]
    exact List.take_left

theorem ok2_nil {ok : Nat → Prop} {b : Nat} (h : ok2 β ok ob [] b) : ok b := by
  rcases h with h | ⟨m, hm, _⟩
  · exact h
  · simp at hm

/-- An element is written whole, with a nil row. -/
theorem storeE_ok (H : COK C) (h : SimB C w0 ok0 ρ s β a w) (hpc : pcOK C.G ρ pc = true) (hob : ∀ m o, ob m = some o → obsOf s pc m = some o) {o : Oper} {t t2 m f ver rv x' : Nat} {i c xd : Ex} {x y : Operand} {l : List SV} (ho : o.op = .store t x y)
    (hx : RepSV C ρ β w (okk C w0 ok0 ρ s β w) (.eptr m ver i [] t) (a.eval x)) (hy : RepSV C ρ β w (okk C w0 ok0 ρ s β w) (.agg t2 l) (a.eval y)) (hm : ob m = some (.narr t f c ver rv none)) (hl : l[f]? = some (.nils x'))
    (hd : toD C ob depth (.struct t) (.agg t2 l) = some (xd, [])) (hu : upOK s pc (m, .narr t f (.tri .set c i xd) ver (rv + 1) none) = true) {l0 : List Pre} : Good C w0 ok0 ρ s pc o ⟨l0, .junk, [(m, .narr t f (.tri .set c i xd) ver (rv + 1) none)], []⟩ a w := by
  have hobR : ∀ m o, ob m = some o → RepOb C w0 ρ β w (okk C w0 ok0 ρ s β w) m o := fun m o hm => by
    obtain ⟨q, g1, g2⟩ := obsOf_some (hob m o hm)
    exact h.ob m q o g1 (subPC_ok g2 hpc)
  have ht2 : t2 = t := by
    simp only [depth, toD] at hd
    split at hd
    · rename_i hk
      simp only [K.struct.injEq] at hk
      exact hk.symm
    · simp at hd
  subst ht2
  obtain ⟨xs, x1, x2⟩ := (toD_all H hobR depth).2.1 _ _ _ _ _ hd hy
  have x1' := x1.keep (ok' := okk C w0 ok0 ρ s β w) (fun b hb => ok2_nil hb) fun _ _ => rfl
  obtain ⟨cs2, fs, hfs, hS, hv2⟩ := hy
  have hcs2 : cs2 = xs := by
    rw [x2] at hv2
    simp only [wrap, K.isRow, if_true, Value.agg.injEq] at hv2
    simpa using (congrArg Array.toList hv2).symm
  subst hcs2
  obtain ⟨q, h1, h2⟩ := obsOf_some (hob m _ hm)
  have hq := subPC_ok h2 hpc
  obtain ⟨g1, g2, L, cs, rows, g3, g4, g5, g6, g7, g8, g9, g10⟩ := h.ob m q _ h1 hq
  obtain ⟨off, b, ln, cp, e1, e2, e3, e4, e5⟩ := hx
  rw [g1] at e1 e5
  simp only [offP, Option.some.injEq, Prod.mk.injEq, and_true] at e1
  subst e1
  obtain ⟨a', c', hs'⟩ := ownsRow_slice g5
  rw [e2] at hs' g5
  simp only [Value.slice.injEq] at hs'
  obtain ⟨rfl, rfl, rfl⟩ := hs'
  have hj : (i.ev C.G ρ).asI.toNat < L.length := by omega
  generalize hjj : (i.ev C.G ρ).asI.toNat = j at *
  obtain ⟨pre, post, k1, k2, k3⟩ := chunk_cut cs g5.1 hj
  have hxl : cs2.length = C.tsz t2 := by
    rw [RepC.len H x1]
    rfl
  obtain ⟨i0, i1, i2, i3, i4, i5, i6⟩ := own_part (mid' := cs2) g5 k1 (by rw [hxl, k3])
  have hb0 : (β.vl m ver).ownBlock = some b := by rw [e2]; rfl
  have hrng := h.rng m q _ b h1 hq rfl (Blk_narr.2 (.inl hb0))
  obtain ⟨_, hvr, hrv⟩ := upOK_narr hu h1
  have hrv' : slFreeV m (rv + 1) s.sl = true ∧ obFreeV m (rv + 1) s.ob = true := by
    rcases hrv with hrv | ⟨_, hrv⟩
    · omega
    · exact hrv
  have hkd : C.kd t2 = .struct t2 := fields_kd hfs
  have hrun := store_run (w := w) (b := b) (o := j * C.tsz t2 + 0) H g2 hxl x1.one (by rw [hkd]; exact RepC.cells H x1) (by rw [Nat.add_zero, ← k2]; exact i0)
  have hw : w.setCells b (j * C.tsz t2 + 0) cs2 = w.setCells b pre.length cs2 := by rw [Nat.add_zero, k2]
  rw [hw] at hrun
  have hlt : j < rows.size := by omega
  have hrow : rows[j]? = some (rows[j]'hlt) := Array.getElem?_eq_getElem hlt
  have hold := g8 j _ _ (List.getElem?_eq_getElem hj) hrow
  obtain ⟨fs', tf, x'', _, _, _, _, _, q1, q2, q3, _⟩ := hold
  rw [hfs] at q1
  simp only [Option.some.injEq] at q1
  subst q1
  have hset : ∀ (k : Nat) (r : Value), (rows.setIfInBounds j (.slice none 0 0))[k]? = some r → (k = j ∧ r = .slice none 0 0) ∨ (k ≠ j ∧ rows[k]? = some r) := by
    intro k r hr
    rw [Array.getElem?_setIfInBounds] at hr
    split at hr
    · rename_i hk
      subst hk
      simp only [Option.some.injEq] at hr
      exact .inl ⟨rfl, hr.symm⟩
    · rename_i hk
      exact .inr ⟨fun e => hk e.symm, hr⟩
  have hmain := Be.rowsAt_main β m (rv + 1) ver (rows.setIfInBounds j (.slice none 0 0)) hvr
  have hrows := Be.rowsAt_rows β m (rv + 1) (rows.setIfInBounds j (.slice none 0 0))
  have hsim : SimB C w0 ok0 ρ (s.upd pc [(m, .narr t2 f (.tri .set c i xd) ver (rv + 1) none)]) (β.rowsAt m (rv + 1) (rows.setIfInBounds j (.slice none 0 0))) a (w.setCells b pre.length cs2) := by
    refine h.renew hpc h1 hq rfl (.inr ⟨_, Be.rowsAt_agree .., hrv'⟩) (h.below.trans (Below.setCells i4 i5 i6 i3 hrng.1 i2)) (by omega) ?_ ?_ ?_
    · intro b' hb' hne
      exact i2 b' fun e => hne (Blk_narr.2 (.inl (by rw [hb0, e])))
    · intro b' _ hb'
      rw [Blk_narr, hmain, hrows] at hb'
      have : Blk β m (.narr t2 f c ver rv none) b' := by
        rw [Blk_narr]
        rcases hb' with hb' | ⟨rows', r1, k, r, r2, r3⟩
        · exact .inl hb'
        · simp only [Value.agg.injEq] at r1
          subst r1
          rcases hset k r r2 with ⟨_, rfl⟩ | ⟨_, r2⟩
          · simp [Value.ownBlock] at r3
          · exact .inr ⟨rows, g6, k, r, r2, r3⟩
      exact ⟨.inl this, by have := (h.rng m q _ b' h1 hq rfl this).2; omega⟩
    · intro ok' hok
      have hkeep : ∀ b', okk C w0 ok0 ρ s β w b' → (w.setCells b pre.length cs2).heap[b']? = w.heap[b']? := fun b' hb' => i2 b' fun e => okk_mut h hb' ⟨m, q, _, h1, hq, rfl, Blk_narr.2 (.inl (by rw [hb0, e]))⟩
      have hother : ∀ (k : Nat) (r : Value) (b' : Nat), rows[k]? = some r → r.ownBlock = some b' → (w.setCells b pre.length cs2).heap[b']? = w.heap[b']? := fun k r b' hk hb' => i2 b' fun e => g10 k r b' hk hb' (by rw [hb0, e])
      refine ⟨g1, g2, L.set j (xd.ev C.G ρ), pre ++ cs2 ++ post, _, ?_, by simpa using g4, ?_, hrows, by simp [g7], ?_, ?_, ?_⟩
      · simp only [Ex.ev, U3.ev, g3, D.asL, hjj]
      · rw [hmain, e2, List.length_set]
        exact i1
      · intro k d r hk hr
        rcases hset k r hr with ⟨rfl, rfl⟩ | ⟨hne, hr⟩
        · rw [List.getElem?_set_self hj] at hk
          simp only [Option.some.injEq] at hk
          subst hk
          rw [chunk_at k2 hxl]
          exact (nelem_nil H x1' hS hfs q2 q3 hl).keep hok hkeep fun b' hb' => by simp [Value.ownBlock] at hb'
        · rw [List.getElem?_set_ne (fun e => hne e.symm)] at hk
          rw [chunk_other k2 k3 hxl hne, ← k1]
          exact (g8 k d r hk hr).keep hok hkeep fun b' hb' => hother k r b' hr hb'
      · intro k k' r r' b' hr hr' hb1 hb2
        rcases hset k r hr with ⟨_, rfl⟩ | ⟨_, hr⟩
        · simp [Value.ownBlock] at hb1
        rcases hset k' r' hr' with ⟨_, rfl⟩ | ⟨_, hr'⟩
        · simp [Value.ownBlock] at hb2
        exact g9 k k' r r' b' hr hr' hb1 hb2
      · intro k r b' hr hb1
        rcases hset k r hr with ⟨_, rfl⟩ | ⟨_, hr⟩
        · simp [Value.ownBlock] at hb1
        rw [hmain]
        exact g10 k r b' hr hb1
  refine Good.unit (r := ⟨l0, .junk, [(m, .narr t2 f (.tri .set c i xd) ver (rv + 1) none)], []⟩) ?_ hsim rfl
  rw [hkd, Nat.add_zero] at hrun
  simp [execOp, ho, e5, x2, hrun]

/-- The row of an element is put back. -/
theorem storeR_ok (H : COK C) (h : SimB C w0 ok0 ρ s β a w) (hpc : pcOK C.G ρ pc = true) (hob : ∀ m o, ob m = some o → obsOf s pc m = some o) {o : Oper} {t m e f ver rv x' : Nat} {i c yd : Ex} {x y : Operand} (ho : o.op = .store t x y)
    (hx : RepSV C ρ β w (okk C w0 ok0 ρ s β w) (.eptr m ver i [f] t) (a.eval x)) (hy : RepSV C ρ β w (okk C w0 ok0 ρ s β w) (.nrow m rv i x') (a.eval y)) (hm : ob m = some (.narr e f c ver rv (some (i, yd))))
    (hu : upOK s pc (m, .narr e f (.tri .set c i (.bin (.setfld f) (.bin .idx c i) yd)) ver rv none) = true) {l0 : List Pre} :
    Good C w0 ok0 ρ s pc o ⟨l0, .junk, [(m, .narr e f (.tri .set c i (.bin (.setfld f) (.bin .idx c i) yd)) ver rv none)], []⟩ a w := by
  obtain ⟨q, h1, h2⟩ := obsOf_some (hob m _ hm)
  have hq := subPC_ok h2 hpc
  obtain ⟨g1, g2, L, cs, rows, g3, g4, g5, g6, g7, g8, g9, g10⟩ := h.ob m q _ h1 hq
  obtain ⟨off, b, ln, cp, e1, e2, e3, e4, e5⟩ := hx
  rw [g1] at e1 e5
  have htin := offP_inTab H [f] g2 e1
  obtain ⟨a', c', hs'⟩ := ownsRow_slice g5
  rw [e2] at hs' g5
  simp only [Value.slice.injEq] at hs'
  obtain ⟨rfl, rfl, rfl⟩ := hs'
  obtain ⟨rows', y1, y2, y3⟩ := hy
  rw [g6] at y1
  simp only [Value.agg.injEq] at y1
  subst y1
  have hj : (i.ev C.G ρ).asI.toNat < L.length := by omega
  have hij : (i.ev C.G ρ).asI = (((i.ev C.G ρ).asI.toNat : Nat) : Int) := by omega
  generalize hjj : (i.ev C.G ρ).asI.toNat = j at *
  have hold := g8 j _ _ (List.getElem?_eq_getElem hj) y3
  simp only [holeAt, hij, if_true] at hold
  obtain ⟨fs, tf, x, ds, pre, hd, post, yo, q1, q2, q3, q4, q5, q6, q7, q8, q9, _, q11⟩ := hold
  simp only [offP, q1, q2, Option.some.injEq, Prod.mk.injEq] at e1
  obtain ⟨e1, rfl⟩ := e1
  obtain ⟨_, gs, _, _, _, r4, _⟩ := fields_fact H q1
  have hpre : pre.length = off := by
    rw [RepF.len H q8 fun t' ht' => offs_in r4 t' (List.mem_of_mem_take ht')]
    omega
  obtain ⟨PRE, POST, k1, k2, k3⟩ := chunk_cut cs g5.1 hj
  rw [q7] at k1 k3
  have hcs : cs = (PRE ++ pre) ++ [hd] ++ (post ++ POST) := by rw [k1]; simp [List.append_assoc]
  obtain ⟨i0, i1, i2, i3, i4, i5, i6⟩ := own_part (mid' := [a.eval y]) g5 hcs rfl
  have hlen : (PRE ++ pre).length = j * C.tsz e + off := by rw [List.length_append, k2, hpre]
  rw [hlen] at i0 i1 i2 i3 i4 i5 i6
  have hb0 : (β.vl m ver).ownBlock = some b := by rw [e2]; rfl
  have hrng := h.rng m q _ b h1 hq rfl (Blk_narr.2 (.inl hb0))
  obtain ⟨ly, cy, p1, p2, p3, p4⟩ := q11
  obtain ⟨ay, cpy, hay⟩ := ownsRow_slice p4
  have hone : (a.eval y).oneCell' = true := by rw [hay]; rfl
  have hsz1 : C.tsz tf = 1 := by
    have := kd_size H htin
    rw [q3] at this
    exact this.symm
  have hwr : wrap (C.kd tf) [a.eval y] = a.eval y := by rw [q3]; rfl
  have hrun := store_run (w := w) (b := b) (o := j * C.tsz e + off) (xs := [a.eval y]) H htin (by rw [hsz1]; rfl) (by intro u hu'; simp only [List.mem_singleton] at hu'; subst hu'; exact hone) (by rw [hwr, hay]; rfl) i0
  rw [hwr] at hrun
  have hsim : SimB C w0 ok0 ρ (s.upd pc [(m, .narr e f (.tri .set c i (.bin (.setfld f) (.bin .idx c i) yd)) ver rv none)]) β a (w.setCells b (j * C.tsz e + off) [a.eval y]) := by
    refine h.renew hpc h1 hq rfl (.inl rfl) (h.below.trans (Below.setCells i4 i5 i6 i3 hrng.1 i2)) (by omega) ?_ ?_ ?_
    · intro b' hb' hne
      exact i2 b' fun e => hne (Blk_narr.2 (.inl (by rw [hb0, e])))
    · intro b' _ hb'
      have : Blk β m (.narr e f c ver rv (some (i, yd))) b' := by
        rw [Blk_narr] at hb' ⊢
        exact hb'
      exact ⟨.inl this, by have := (h.rng m q _ b' h1 hq rfl this).2; omega⟩
    · intro ok' hok
      have hkeep : ∀ b', okk C w0 ok0 ρ s β w b' → (w.setCells b (j * C.tsz e + off) [a.eval y]).heap[b']? = w.heap[b']? := fun b' hb' => i2 b' fun e => okk_mut h hb' ⟨m, q, _, h1, hq, rfl, Blk_narr.2 (.inl (by rw [hb0, e]))⟩
      have hother : ∀ (k : Nat) (r : Value) (b' : Nat), rows[k]? = some r → r.ownBlock = some b' → (w.setCells b (j * C.tsz e + off) [a.eval y]).heap[b']? = w.heap[b']? := fun k r b' hk hb' => i2 b' fun e => g10 k r b' hk hb' (by rw [hb0, e])
      have hat : (at_ L j).asA = ds := by rw [at_get (List.getElem?_eq_getElem hj), q5]; rfl
      have hch : (pre ++ [a.eval y] ++ post).length = C.tsz e := by rw [← k3]; simp
      refine ⟨g1, g2, L.set j (.agg (ds.set f (yd.ev C.G ρ))), PRE ++ (pre ++ [a.eval y] ++ post) ++ POST, rows, ?_, by simpa using g4, ?_, g6, by simpa using g7, ?_, g9, g10⟩
      · simp only [Ex.ev, U3.ev, U2.ev, g3, D.asL, hjj, hat]
      · rw [e2, List.length_set]
        have e6 : PRE ++ (pre ++ [a.eval y] ++ post) ++ POST = (PRE ++ pre) ++ [a.eval y] ++ (post ++ POST) := by simp [List.append_assoc]
        rw [e6]
        exact i1
      · intro k d r hk hr
        by_cases hne : k = j
        · subst hne
          rw [List.getElem?_set_self hj] at hk
          simp only [Option.some.injEq] at hk
          subst hk
          rw [y3] at hr
          simp only [Option.some.injEq] at hr
          subst hr
          rw [chunk_at k2 hch]
          have hfl : f < ds.length := (List.getElem?_eq_some_iff.1 q6).1
          refine ⟨fs, tf, x, _, pre, a.eval y, post, yd.ev C.G ρ, q1, q2, q3, q4, rfl, List.getElem?_set_self hfl, by simp, ?_, ?_, ⟨_, _, _, hay⟩, rfl, ly, cy, p1, p2.keep hok hkeep, p3, ownsRow.same p4 fun b' hb' => hother k _ b' y3 hb'⟩
          · rw [List.take_set_of_le (Nat.le_refl _)]
            exact q8.keep hok hkeep
          · rw [List.drop_set_of_lt (by omega)]
            exact q9.keep hok hkeep
        · rw [List.getElem?_set_ne (fun e => hne e.symm)] at hk
          rw [chunk_other k2 k3 hch hne, ← k1]
          have := g8 k d r hk hr
          rw [show holeAt C ρ k (some (i, yd)) = none by simp only [holeAt]; rw [if_neg (by omega)]] at this
          exact this.keep hok hkeep fun b' hb' => hother k r b' hr hb'
  refine Good.unit (r := ⟨l0, .junk, [(m, .narr e f (.tri .set c i (.bin (.setfld f) (.bin .idx c i) yd)) ver rv none)], []⟩) ?_ hsim rfl
  simp [execOp, ho, e5, hrun]

theorem rowOf_ok {e f x : Nat} (h : C.rowOf e f = some x) {fs : List Nat} {tf : Nat} (h1 : C.fields e = some fs) (h2 : fs[f]? = some tf) : C.kd tf = .slice x := by
  unfold Ctx.rowOf at h
  rw [h1] at h
  simp only [h2] at h
  split at h
  · rename_i hk
    simp only [Option.some.injEq] at h
    subst h
    exact hk
  · simp at h
/-- The row of an element grows. -/
theorem appN_ok (H : COK C) (h : SimB C w0 ok0 ρ s β a w) (hpc : pcOK C.G ρ pc = true) (hob : ∀ m o, ob m = some o → obsOf s pc m = some o) {o : Oper} {t m e ea f ver rv : Nat} {x y : Operand} {xv : SV} {i c cx : Ex}
    (ho : o.op = .call { callee := .builtin .append, args := #[x, y], argTypes := #[t, t] })
    (hk : C.kd t = .slice e) (hz : (C.zeroV e).isSome = true) (hx : RepSV C ρ β w (okk C w0 ok0 ρ s β w) (.nrow m rv i e) (a.eval x)) (hm : ob m = some (.narr ea f c ver rv none)) (hrow : C.rowOf ea f = some e)
    (hy : RepSV C ρ β w (okk C w0 ok0 ρ s β w) xv (a.eval y)) (hsrc : srcOf C ob e xv = some cx)
    (hfit : (Ex.bin (.fits maxN) (.un .len (fldE (.bin .idx c i) f)) (.un .len cx)).ev C.G ρ = .bool true)
    (hu : upOK s pc (m, .narr ea f c ver (rv + 1) (some (i, appC (fldE (.bin .idx c i) f) cx))) = true) {l : List Pre} :
    Good C w0 ok0 ρ s pc o ⟨l, .nrow m (rv + 1) i e, [(m, .narr ea f c ver (rv + 1) (some (i, appC (fldE (.bin .idx c i) f) cx)))], []⟩ a w := by
  have hobR : ∀ m o, ob m = some o → RepOb C w0 ρ β w (okk C w0 ok0 ρ s β w) m o := fun m o hm => by
    obtain ⟨q, g1, g2⟩ := obsOf_some (hob m o hm)
    exact h.ob m q o g1 (subPC_ok g2 hpc)
  obtain ⟨Ls, css, e1, e2, e3⟩ := src_ok H hobR hsrc hy
  obtain ⟨hu1, he, _⟩ := slice_fact H hk
  obtain ⟨inf, hi, hsz, hby⟩ := info_fact H he
  obtain ⟨v, hv⟩ := Option.isSome_iff_exists.1 hz
  obtain ⟨i', z, hi', hz', hzc⟩ := zeroV_ok (ρ := ρ) (β := β) (w := w) (ok := okk C w0 ok0 ρ s β w) H hv
  rw [hi] at hi'
  simp only [Option.some.injEq] at hi'
  subst hi'
  have hzl : z.cells.size = C.tsz e := by rw [← Array.length_toList, RepSc.repC_len H he hzc]
  obtain ⟨q, h1, h2⟩ := obsOf_some (hob m _ hm)
  have hq := subPC_ok h2 hpc
  obtain ⟨g1, g2, L, cs, rows, g3, g4, g5, g6, g7, g8, g9, g10⟩ := h.ob m q _ h1 hq
  obtain ⟨rows', y1, y2, y3⟩ := hx
  rw [g6] at y1
  simp only [Value.agg.injEq] at y1
  subst y1
  have hij : (i.ev C.G ρ).asI = (((i.ev C.G ρ).asI.toNat : Nat) : Int) := by omega
  generalize hjj : (i.ev C.G ρ).asI.toNat = j at *
  have hlt : j < rows.size := (Array.getElem?_eq_some_iff.1 y3).1
  have hj : j < L.length := by omega
  have hold := g8 j _ _ (List.getElem?_eq_getElem hj) y3
  simp only [holeAt] at hold
  obtain ⟨fs, tf, x2, ds, pre, hd, post, yo, q1, q2, q3, q4, q5, q6, q7, q8, q9, q10, rfl, ly, cy, p1, p2, p3, p4⟩ := hold
  have hx2 := rowOf_ok hrow q1 q2
  rw [q3] at hx2
  simp only [K.slice.injEq] at hx2
  subst hx2
  have hrowev : (fldE (.bin .idx c i) f).ev C.G ρ = .list ly := by
    rw [fldE_ev]
    simp only [Ex.ev, U2.ev, g3, D.asL, hjj]
    rw [at_get (List.getElem?_eq_getElem hj), q5]
    show at_ ds f = _
    rw [at_get q6, p1]
  simp only [Ex.ev, U2.ev, U1.ev, e1, hrowev, D.asI, D.asL, D.bool.injEq, decide_eq_true_eq] at hfit
  have hL : ly.length + Ls.length ≤ maxN := by omega
  have hcl : css.length = Ls.length * C.tsz x2 := by rw [RepL.len H e2, kd_size H he]
  have hs := h.below.size
  obtain ⟨v', w', r1, r2, r3, r4⟩ := run_append_any (P := C.P) w w0.heap.size t o.type x2 inf z (C.tsz x2) inf.bytes hu1 hi hz' hsz rfl hzl (tsz_pos H he) (a.eval x) ly.length cy p4 (a.eval y) Ls.length css hcl e3 e2.one
    (by unfold maxN at hL; simp only [maxLen]; omega) (by unfold maxN at hL; have := Nat.mul_le_mul hL hby; omega) hs
  obtain ⟨_, hvr, hrv⟩ := upOK_narr hu h1
  have hrv' : slFreeV m (rv + 1) s.sl = true ∧ obFreeV m (rv + 1) s.ob = true := by
    rcases hrv with hrv | ⟨_, hrv⟩
    · omega
    · exact hrv
  have hset : ∀ (k : Nat) (r : Value), (rows.setIfInBounds j v')[k]? = some r → (k = j ∧ r = v') ∨ (k ≠ j ∧ rows[k]? = some r) := by
    intro k r hr
    rw [Array.getElem?_setIfInBounds] at hr
    split at hr
    · rename_i hk
      subst hk
      simp only [Option.some.injEq] at hr
      exact .inl ⟨rfl, hr.symm⟩
    · rename_i hk
      exact .inr ⟨fun e => hk e.symm, hr⟩
  have hmain := Be.rowsAt_main β m (rv + 1) ver (rows.setIfInBounds j v') hvr
  have hrows := Be.rowsAt_rows β m (rv + 1) (rows.setIfInBounds j v')
  have hBlk : ∀ b, (a.eval x).ownBlock = some b → Blk β m (.narr ea f c ver rv none) b := fun b hb => Blk_narr.2 (.inr ⟨rows, g6, j, _, y3, hb⟩)
  have hsim : SimB C w0 ok0 ρ (s.upd pc [(m, .narr ea f c ver (rv + 1) (some (i, appC (fldE (.bin .idx c i) f) cx)))]) (β.rowsAt m (rv + 1) (rows.setIfInBounds j v')) a w' := by
    refine h.renew hpc h1 hq rfl (.inr ⟨_, Be.rowsAt_agree .., hrv'⟩) (h.below.grown r3 hs fun k hk' => (h.rng m q _ k h1 hq rfl (hBlk k hk')).1) r3.size ?_ ?_ ?_
    · intro b hb hne
      exact r3.block b hb fun e => hne (hBlk b e.symm)
    · intro b _ hb
      rw [Blk_narr, hmain, hrows] at hb
      have fin : Blk β m (.narr ea f c ver rv none) b → (Blk β m (.narr ea f c ver rv none) b ∨ w.heap.size ≤ b) ∧ b < w'.heap.size := fun hb' => ⟨.inl hb', Nat.lt_of_lt_of_le (h.rng m q _ b h1 hq rfl hb').2 r3.size⟩
      rcases hb with hb | ⟨rows', k1, k, r, k2, k3⟩
      · exact fin (Blk_narr.2 (.inl hb))
      · simp only [Value.agg.injEq] at k1
        subst k1
        rcases hset k r k2 with ⟨_, rfl⟩ | ⟨_, k2⟩
        · rcases r4 b k3 with k4 | k4
          · exact fin (hBlk b k4)
          · exact ⟨.inr k4, (r2.lt b k3).2⟩
        · exact fin (Blk_narr.2 (.inr ⟨rows, g6, k, r, k2, k3⟩))
    · intro ok' hok
      have hkeep : ∀ b, okk C w0 ok0 ρ s β w b → w'.heap[b]? = w.heap[b]? := fun b hb => r3.block b (okk_size hs hb) fun e => okk_mut h hb ⟨m, q, _, h1, hq, rfl, hBlk b e.symm⟩
      have hmainb : ∀ b, (β.vl m ver).ownBlock = some b → w'.heap[b]? = w.heap[b]? := fun b hb => r3.block b (h.rng m q _ b h1 hq rfl (Blk_narr.2 (.inl hb))).2 fun e => g10 j _ b y3 e.symm hb
      have hother : ∀ (k : Nat) (r : Value) (b : Nat), k ≠ j → rows[k]? = some r → r.ownBlock = some b → w'.heap[b]? = w.heap[b]? := fun k r b hne hk hb => r3.block b (h.rng m q _ b h1 hq rfl (Blk_narr.2 (.inr ⟨rows, g6, k, r, hk, hb⟩))).2 fun e => hne (g9 k j r _ b hk y3 hb e.symm)
      refine ⟨g1, g2, L, cs, _, g3, g4, by rw [hmain]; exact ownsRow.same g5 hmainb, hrows, by simpa using g7, ?_, ?_, ?_⟩
      · intro k d r hk hr
        rcases hset k r hr with ⟨rfl, rfl⟩ | ⟨hne, hr⟩
        · rw [List.getElem?_eq_getElem hj] at hk
          simp only [Option.some.injEq] at hk
          subst hk
          have hh : holeAt C ρ k (some (i, appC (fldE (.bin .idx c i) f) cx)) = some ((appC (fldE (.bin .idx c i) f) cx).ev C.G ρ) := by
            simp only [holeAt]
            rw [if_pos hij]
          rw [hh]
          refine ⟨fs, tf, x2, ds, pre, a.eval x, post, yo, q1, q2, q3, q4, q5, q6, q7, q8.keep hok hkeep, q9.keep hok hkeep, q10, ly ++ Ls, cy ++ css, appC_ev C.G _ cx hrowev e1, RepL.append (p2.keep hok hkeep) (e2.keep hok hkeep), by simpa using hL, ?_⟩
          rw [List.length_append]
          exact r2
        · have hh : holeAt C ρ k (some (i, appC (fldE (.bin .idx c i) f) cx)) = none := by
            simp only [holeAt]
            rw [if_neg (by omega)]
          rw [hh]
          exact (g8 k d r hk hr).keep hok hkeep fun b hb => hother k r b hne hr hb
      · have key : ∀ (k : Nat) (r : Value) (b : Nat), k ≠ j → rows[k]? = some r → r.ownBlock = some b → v'.ownBlock = some b → False := by
          intro k r b hne hk hb hb'
          rcases r4 b hb' with k4 | k4
          · exact hne (g9 k j r _ b hk y3 hb k4)
          · have := (h.rng m q _ b h1 hq rfl (Blk_narr.2 (.inr ⟨rows, g6, k, r, hk, hb⟩))).2
            omega
        intro k k' r r' b hr hr' hb1 hb2
        rcases hset k r hr with ⟨k1, k2⟩ | ⟨hne, hr⟩
        · rcases hset k' r' hr' with ⟨k3, k4⟩ | ⟨hne', hr'⟩
          · rw [k1, k3]
          · rw [k2] at hb1
            exact (key k' r' b hne' hr' hb2 hb1).elim
        · rcases hset k' r' hr' with ⟨k3, k4⟩ | ⟨hne', hr'⟩
          · rw [k4] at hb2
            exact (key k r b hne hr hb1 hb2).elim
          · exact g9 k k' r r' b hr hr' hb1 hb2
      · intro k r b hr hb1 hb2
        rw [hmain] at hb2
        rcases hset k r hr with ⟨_, k2⟩ | ⟨_, hr⟩
        · rw [k2] at hb1
          rcases r4 b hb1 with k4 | k4
          · exact g10 j _ b y3 k4 hb2
          · have := (h.rng m q _ b h1 hq rfl (Blk_narr.2 (.inl hb2))).2
            omega
        · exact g10 k r b hr hb1 hb2
  refine Good.value (r := ⟨l, .nrow m (rv + 1) i x2, [(m, .narr ea f c ver (rv + 1) (some (i, appC (fldE (.bin .idx c i) f) cx)))], []⟩) (resolve_append ho r1) hsim ?_
  refine ⟨_, hrows, y2, ?_⟩
  rw [hjj, Array.getElem?_setIfInBounds, if_pos rfl, if_pos hlt]
end
end Sy

/- Each operation does what 'eff' says of it: the whole. -/
namespace Sy
open Go Go.RowKit

section
variable {C : Ctx} {w0 : World} {ok0 : Nat → Prop} {ρ : List D} {s : S} {β : Be} {a : Act} {w : World} {pc : PC} {ob : Obs}

theorem resolve_builtin {o : Oper} {c : Call} {b : Builtin} (ho : o.op = .call c) (hc : c.callee = .builtin b) : (execOp a.eval o).run C.P w = ((builtin b c.argTypes o.type (c.args.map fun | .const _ => true | _ => false) (c.args.map a.eval)).run C.P w) := by
  unfold execOp
  simp only [ho, resolve, hc, invoke, Sem.run_bind, Sem.run_pure, Result.andThen_ok]
  rfl

theorem eff_ok (H : COK C) (HG : GOK C w0 ok0) (Hok : ∀ b, ok0 b → b < w0.heap.size) {Γ : Fns} (HS : ∀ f, Sound C f (Γ f)) (h : SimB C w0 ok0 ρ s β a w) (hpc : pcOK C.G ρ pc = true) (hob : ∀ m o, ob m = some o → obsOf s pc m = some o) {o : Oper} {n : Nat} {ev : PC → Operand → Option SV} {r : Res}
    (hr : eff C ob n o ev = some r) (hev : ∀ more x v, ev more x = some v → pcOK C.G ρ more = true → RepSV C ρ β w (okk C w0 ok0 ρ s β w) v (a.eval x))
    (hup : r.up.all (upOK s pc) = true) (hnw : r.nw.all (fun m => (look s.ob m).isNone) = true) (hnd : nodupB (r.up.map (·.1)) = true) (hpass : Passed C Γ ρ n r.pre) : Good C w0 ok0 ρ s pc o r a w := by
  have hobR : ∀ m o, ob m = some o → RepOb C w0 ρ β w (okk C w0 ok0 ρ s β w) m o := fun m o hm => by
    obtain ⟨q, g1, g2⟩ := obsOf_some (hob m o hm)
    exact h.ob m q o g1 (subPC_ok g2 hpc)
  have hev0 : ∀ x v, ev [] x = some v → RepSV C ρ β w (okk C w0 ok0 ρ s β w) v (a.eval x) := fun x v hx => hev [] x v hx rfl
  unfold eff at hr
  cases hop : o.op with
  | move x =>
    simp only [hop] at hr
    cases hx : ev [] x with
    | none => simp [hx] at hr
    | some v =>
      simp only [hx] at hr
      exact pures_ok hr h (by simp [execOp, hop]) (typ_ok (hev0 _ _ hx))
  | assign x =>
    simp only [hop] at hr
    cases hx : ev [] x with
    | none => simp [hx] at hr
    | some v =>
      simp only [hx] at hr
      exact pures_ok hr h (by simp [execOp, hop]) (typ_ok (hev0 _ _ hx))
  | pick c x y =>
    simp only [hop] at hr
    cases hc : ev [] c with
    | none => simp [hc] at hr
    | some vc =>
      cases vc with
      | dat k ec =>
        cases k with
        | bool =>
          simp only [hc] at hr
          cases hx : ev [(ec, true)] x with
          | none => simp [hx] at hr
          | some vx =>
            cases hy : ev [(ec, false)] y with
            | none => simp [hx, hy] at hr
            | some vy =>
              simp only [hx, hy] at hr
              cases hp : pickV ec vx vy with
              | none => simp [hp] at hr
              | some v =>
                simp only [hp] at hr
                obtain ⟨b, h1, h2⟩ := RepV.bool (hev0 _ _ hc)
                refine pures_ok hr h (x := if b = true then a.eval x else a.eval y) ?_ (pickV_ok hp h1 (fun hb => hev _ _ _ hx (by simp [pcOK, h1, hb, D.asB])) (fun hb => hev _ _ _ hy (by simp [pcOK, h1, hb, D.asB])))
                simp [execOp, hop, h2, asBool]
        | _ => simp [hc] at hr
      | _ => simp [hc] at hr
  | alloc t =>
    simp only [hop] at hr
    cases hz : C.zeroV t with
    | none => simp [hz] at hr
    | some z =>
      simp only [hz, Option.some.injEq] at hr
      subst hr
      simp only [List.all_cons, List.all_nil, Bool.and_true] at hup hnw
      exact alloc_ok H h hpc hop hz hup (by simpa using hnw)
  | box t x =>
    simp only [hop] at hr
    cases hx : ev [] x with
    | none => simp [hx] at hr
    | some v =>
      simp only [hx] at hr
      split at hr
      · rename_i hc
        simp only [Bool.and_eq_true] at hc
        simp only [Option.some.injEq] at hr
        subst hr
        simp only [List.all_cons, List.all_nil, Bool.and_true] at hup hnw
        exact box_ok H h hpc hop (typ_ok (hev0 _ _ hx)) hc.1 hc.2 hup (by simpa using hnw)
      · simp at hr
  | build t ps =>
    simp only [hop] at hr
    cases hp : partsOf (ev []) ps.toList with
    | none => simp [hp] at hr
    | some l =>
      have hP := partsOf_ok hev0 hp
      have hP' : RepP C ρ β w (okk C w0 ok0 ρ s β w) l (ps.map fun (i, x) => (i, a.eval x)).toList := by rw [Array.toList_map]; exact hP
      simp only [hp] at hr
      cases hk : C.kd t with
      | struct t' =>
        simp only [hk] at hr
        cases hb : buildV C t l with
        | none => simp [hb] at hr
        | some v =>
          simp only [hb, pures, List.map_nil, Option.some.injEq] at hr
          subst hr
          exact struct_ok H h hop hP' hb
      | arr t' =>
        simp only [hk] at hr
        cases ha : C.arrOf t' with
        | none => simp [ha] at hr
        | some y =>
          obtain ⟨m, e⟩ := y
          simp only [ha] at hr
          split at hr
          · rename_i hc
            simp only [Bool.and_eq_true, decide_eq_true_eq] at hc
            obtain ⟨⟨⟨⟨c1, c2⟩, c3⟩, c4⟩, rfl⟩ := hc
            cases he : elems C ob e l m 0 with
            | none => simp [he] at hr
            | some y =>
              obtain ⟨es, ns⟩ := y
              simp only [he] at hr
              cases hf : frzs C ob ns ns with
              | none => simp [hf] at hr
              | some fs =>
                simp only [hf, Option.some.injEq] at hr
                subst hr
                exact arr_ok H h hpc hob hop ha c4 hP' c1 c2 c3 he hf
          · simp at hr
      | _ => simp [hk] at hr
  | buildSlice t len ps =>
    simp only [hop] at hr
    cases hp : partsOf (ev []) ps.toList with
    | none => simp [hp] at hr
    | some l =>
      have hP := partsOf_ok hev0 hp
      have hP' : RepP C ρ β w (okk C w0 ok0 ρ s β w) l (ps.map fun (i, x) => (i, a.eval x)).toList := by rw [Array.toList_map]; exact hP
      simp only [hp] at hr
      cases hk : C.kd t with
      | slice e =>
        simp only [hk] at hr
        split at hr
        · rename_i ht
          cases hv : tabOf l len 0 with
          | none => simp [hv] at hr
          | some vs =>
            simp only [hv, pures, List.map_nil, Option.some.injEq] at hr
            subst hr
            exact tab_ok H h hop hk hP' ht hv
        split at hr
        · rename_i hc
          simp only [Bool.and_eq_true, decide_eq_true_eq] at hc
          obtain ⟨⟨⟨c1, c2⟩, c3⟩, c4⟩ := hc
          cases he : elems C ob e l len 0 with
          | none => simp [he] at hr
          | some y =>
            obtain ⟨es, ns⟩ := y
            simp only [he] at hr
            cases hf : frzs C ob ns ns with
            | none => simp [hf] at hr
            | some fs =>
              simp only [hf, Option.some.injEq] at hr
              subst hr
              simp only [List.all_cons, List.all_nil, Bool.and_true, Bool.and_eq_true] at hup hnw
              exact lit_ok H h hpc hob hop hk c4 hP' c1 c2 c3 he hf hup.1 (by simpa using hnw) (by simpa using hnd)
        · simp at hr
      | _ => simp [hk] at hr
  | load t x =>
    simp only [hop] at hr
    cases hx : ev [] x with
    | none => simp [hx] at hr
    | some v =>
      simp only [hx] at hr
      cases hl : loadV C ob t v with
      | none => simp [hl] at hr
      | some u =>
        simp only [hl] at hr
        obtain ⟨y, h1, h2⟩ := loadV_ok H hobR hl (hev0 _ _ hx)
        exact pures_ok hr h (by simp [execOp, hop, h1]) h2
  | store t x y =>
    simp only [hop] at hr
    cases hx : ev [] x with
    | none => simp [hx] at hr
    | some p =>
      cases hy : ev [] y with
      | none => simp [hx, hy] at hr
      | some v =>
        simp only [hx, hy] at hr
        cases hs : storeV C ob t p v with
        | none => simp [hs] at hr
        | some u =>
          simp only [hs, Option.some.injEq] at hr
          subst hr
          have hX := hev0 _ _ hx
          have hY := hev0 _ _ hy
          unfold storeV at hs
          cases p with
          | bptr m p t' =>
            simp only at hs
            split at hs
            · rename_i ht
              subst ht
              cases hm : ob m with
              | none => simp [hm] at hs
              | some o' =>
                cases o' with
                | box tb v0 =>
                  simp only [hm] at hs
                  cases hpj : proj C v0 tb p with
                  | none => simp [hpj] at hs
                  | some y =>
                    obtain ⟨y, t''⟩ := y
                    simp only [hpj] at hs
                    split at hs
                    · rename_i hc
                      obtain ⟨rfl, hk⟩ := hc
                      cases hu : upd C v0 tb p (typ C (C.kd t'') v) with
                      | none => simp [hu] at hs
                      | some v' =>
                        simp only [hu, Option.map_some, Option.some.injEq] at hs
                        subst hs
                        exact store_box H h hpc hob hop hX (typ_ok hY) hm hpj hk hu
                    · simp at hs
                | _ => simp [hm] at hs
            · simp at hs
          | eptr m ver i p t' =>
            simp only at hs
            split at hs
            · rename_i ht
              subst ht
              cases hm : ob m with
              | none => simp [hm] at hs
              | some o' =>
                cases o' with
                | arr e c ver' =>
                  simp only [hm] at hs
                  cases hpj : projD C (.bin .idx c i) e p with
                  | none => simp [hpj] at hs
                  | some y =>
                    obtain ⟨y, t''⟩ := y
                    cases hd : toD C ob depth (C.kd t) v with
                    | none => simp [hpj, hd] at hs
                    | some z =>
                      obtain ⟨xd, ns⟩ := z
                      simp only [hpj, hd] at hs
                      split at hs
                      · rename_i hc
                        obtain ⟨rfl, rfl, hns⟩ := hc
                        cases hu : updD C (.bin .idx c i) e p xd with
                        | none => simp [hu] at hs
                        | some el =>
                          cases hf : frzs C ob ns ns with
                          | none => simp [hu, hf] at hs
                          | some fs =>
                            simp only [hu, hf, Option.some.injEq] at hs
                            subst hs
                            exact store_arr H h hpc hob hop hX hY hm hpj hd (by simpa using hns) hu hf
                      · simp at hs
                | narr e f c ver' rv hole =>
                  cases hole with
                  | none =>
                    simp only [hm] at hs
                    split at hs
                    · rename_i hc
                      obtain ⟨rfl, rfl, rfl⟩ := hc
                      cases v with
                      | agg t2 l =>
                        simp only at hs
                        split at hs
                        · rename_i xd hl hd
                          simp only [Option.some.injEq] at hs
                          subst hs
                          simp only [List.all_cons, List.all_nil, Bool.and_true] at hup
                          exact storeE_ok H h hpc hob hop hX hY hm hl hd hup
                        · simp at hs
                      | _ => simp at hs
                    · simp at hs
                  | some yy =>
                    obtain ⟨j, yy⟩ := yy
                    simp only [hm] at hs
                    cases v with
                    | nrow m' rv' i' x' =>
                      simp only at hs
                      split at hs
                      · rename_i hc
                        obtain ⟨rfl, rfl, rfl, rfl, rfl, rfl⟩ := hc
                        simp only [Option.some.injEq] at hs
                        subst hs
                        simp only [List.all_cons, List.all_nil, Bool.and_true] at hup
                        exact storeR_ok H h hpc hob hop hX hY hm hup
                      · simp at hs
                    | _ => simp at hs
                | _ => simp [hm] at hs
            · simp at hs
          | alt i L =>
            split at hs
            · rename_i he; simp at he
            · rename_i he; simp at he
            · rename_i i' m' p' t' l' he
              simp only [SV.alt.injEq] at he
              obtain ⟨rfl, rfl⟩ := he
              split at hs
              · rename_i tb v0 xd hm hd
                split at hs
                · cases hu : storeAlt C m' tb t i xd (.bptr m' p' t' :: l') 0 v0 with
                  | none => simp [hu] at hs
                  | some v' =>
                    simp only [hu, Option.map_some, Option.some.injEq] at hs
                    subst hs
                    exact store_alt H h hpc hob hop hX hY hm hd hu
                · simp at hs
              · simp at hs
            · simp at hs
          | _ => simp at hs
  | nilCheck x =>
    simp only [hop] at hr
    cases hx : ev [] x with
    | none => simp [hx] at hr
    | some v =>
      have hX := hev0 _ _ hx
      cases v with
      | bptr m p t =>
        simp only [hx] at hr
        refine pures_ok hr h ?_ hX
        obtain ⟨off, _, e2⟩ := hX
        simp [execOp, hop, e2]
      | eptr m v i p t =>
        simp only [hx] at hr
        refine pures_ok hr h ?_ hX
        obtain ⟨off, b, l, c, _, _, _, _, e2⟩ := hX
        simp [execOp, hop, e2]
      | fnc f v1 v2 =>
        simp only [hx] at hr
        refine pures_ok hr h ?_ hX
        obtain ⟨w1, w2, e2, _⟩ := hX
        simp [execOp, hop, e2]
      | alt i l =>
        simp only [hx] at hr
        split at hr
        · rename_i hc
          refine pures_ok hr h ?_ hX
          obtain ⟨cs, g1, g2, g3⟩ := hX
          have hlt : (i.ev C.G ρ).asI.toNat < l.length := by
            rw [← RepSVs.len g1]
            rcases Nat.lt_or_ge (i.ev C.G ρ).asI.toNat cs.length with hh | hh
            · exact hh
            · rw [List.getElem?_eq_none hh] at g3; simp at g3
          obtain ⟨u, e4, e5⟩ := RepSVs.get g1 (List.getElem?_eq_getElem hlt)
          rw [g3] at e4
          simp only [Option.some.injEq] at e4
          have hmem := List.getElem_mem hlt
          simp only [Bool.or_eq_true] at hc
          rcases hc with hc | hc
          · obtain ⟨f, p, q, hf⟩ := isFncs_mem hc _ hmem
            rw [hf] at e5
            obtain ⟨w1, w2, e6, _⟩ := e5
            simp [execOp, hop, e4, e6]
          · obtain ⟨f, p, q, hf⟩ := isBptrs_mem hc _ hmem
            rw [hf] at e5
            obtain ⟨off, _, e6⟩ := e5
            simp [execOp, hop, e4, e6]
        · simp at hr
      | dat k e =>
        cases k with
        | ptr t =>
          simp only [hx] at hr
          have hr' := hr
          simp only [pures, List.map_cons, List.map_nil, Option.some.injEq] at hr'
          have hc := hpass.chk (.un .isptr e) (by rw [← hr']; simp)
          rcases RepV.ptr hX with ⟨e1, e2⟩ | ⟨d', b, o', cs, e1, e2, e3, e4, e5⟩
          · simp [Ex.ev, U1.ev, e1, D.isP, D.asB] at hc
          · refine pures_ok hr h (x := a.eval x) (by simp [execOp, hop, e2]) ?_
            simp only [RepSV, Ex.ev, U1.ev, deref_ev, e1, D.asP]
            exact e1 ▸ hX
        | func t =>
          simp only [hx] at hr
          refine pures_ok hr h ?_ hX
          obtain ⟨cs, h1, h2⟩ := hX
          generalize e.ev C.G ρ = d at h1
          cases h1 with
          | func => simp [execOp, hop, h2, wrap, K.isRow]
        | _ => simp [hx] at hr
      | _ => simp [hx] at hr
  | binOp op t x y _ =>
    simp only [hop] at hr
    cases hx : ev [] x with
    | none => simp [hx] at hr
    | some u =>
      cases hy : ev [] y with
      | none => simp [hx, hy] at hr
      | some v =>
        simp only [hx, hy] at hr
        cases hb : binV C ob op t u v with
        | none => simp [hb] at hr
        | some q =>
          obtain ⟨l, z⟩ := q
          simp only [hb] at hr
          have hr' := hr
          simp only [pures, Option.some.injEq] at hr'
          obtain ⟨res, h1, h2⟩ := binV_ok H hobR hb (hev0 _ _ hx) (hev0 _ _ hy) (Passed.all (n := n) (Γ := Γ) (by rw [← hr'] at hpass; exact hpass)) x y
          refine pures_ok hr h (x := res) ?_ h2
          simp only [execOp, hop]
          rw [Sem.run_bind, h1]
          rfl
  | unOp op _ x =>
    simp only [hop] at hr
    cases hx : ev [] x with
    | none => cases op <;> simp [hx] at hr
    | some v =>
      have hX := hev0 _ _ hx
      cases op <;> cases v <;> try (simp [hx] at hr; done)
      · rename_i k e
        cases k <;> try (simp [hx] at hr; done)
        rename_i k
        simp only [hx] at hr
        obtain ⟨m, h1, h2, h3⟩ := RepV.int hX
        refine pures_ok hr h (x := .int k (k.wrap (0 - m))) (by simp only [execOp, hop, h2, Op.unary, Op.intArith, Sem.run_bind, Sem.run_pure, Result.andThen_ok]) ?_
        simp only [RepSV, Ex.ev, U1.ev, h1, asI_int]
        exact RepV.mkInt (wrap_has _ _)
      · rename_i k e
        cases k <;> try (simp [hx] at hr; done)
        simp only [hx] at hr
        obtain ⟨m, h1, h2⟩ := RepV.bool hX
        refine pures_ok hr h (x := .bool !m) (by simp only [execOp, hop, h2, Op.unary, Sem.run_bind, Sem.run_pure, Result.andThen_ok]) ?_
        simp only [RepSV, Ex.ev, U1.ev, h1, D.asB]
        exact RepV.mkBool
  | convert src dst x =>
    simp only [hop] at hr
    cases hx : ev [] x with
    | none => simp [hx] at hr
    | some v =>
      have hX := hev0 _ _ hx
      cases v with
      | dat k e =>
        cases k with
        | int k0 =>
          cases hs : C.kd src <;> cases hd : C.kd dst <;> try (simp [hx, hs, hd] at hr; done)
          rename_i ks k
          simp only [hx, hs, hd] at hr
          obtain ⟨m, h1, h2, h3⟩ := RepV.int hX
          have hu1 := (int_fact H hs).1
          have hu2 := (int_fact H hd).1
          refine pures_ok hr h (x := .int k (k.wrap m)) (by simp [execOp, hop, h2, convert, run_underlying hu1, run_underlying hu2, Conv.intToInt]) ?_
          simp only [RepSV, Ex.ev, U1.ev, h1, asI_int]
          exact RepV.mkInt (wrap_has _ _)
        | _ => simp [hx] at hr
      | _ => simp [hx] at hr
  | makeFunc fn first captured =>
    cases fn with
    | func f =>
      simp only [hop] at hr
      cases h1 : exIs (ev []) first.toList with
      | none => simp [h1] at hr
      | some u =>
        cases h2 : exIs (ev []) captured.toList with
        | none => simp [h1, h2] at hr
        | some v =>
          simp only [h1, h2] at hr
          refine pures_ok hr h (x := .func (.func f) (first.map a.eval) (captured.map a.eval)) (by simp [execOp, hop, Instr.makeFunc]) ⟨first.toList.map a.eval, captured.toList.map a.eval, ?_, exIs_ok hev0 h1, exIs_ok hev0 h2⟩
          congr 1 <;> (apply Array.ext'; simp)
    | _ => simp [hop] at hr
  | slice t x lo hi mx =>
    cases mx with
    | some _ => simp [hop] at hr
    | none =>
      simp only [hop] at hr
      cases hx : ev [] x with
      | none => simp [hx] at hr
      | some v =>
        simp only [hx] at hr
        split at hr
        · simp at hr
        rename_i hno
        simp only [not_or] at hno
        generalize hle : (lo.map fun y => (ev [] y).bind exI).bind id = le at hr
        generalize hhe : (hi.map fun y => (ev [] y).bind exI).bind id = he at hr
        have bd : ∀ (lo : Option Operand) (le : Option Ex), ¬ (lo.map fun y => (ev [] y).bind exI) = some none → (lo.map fun y => (ev [] y).bind exI).bind id = le → lo = none ∧ le = none ∨ ∃ y z, lo = some y ∧ le = some z ∧ RepV C w (okk C w0 ok0 ρ s β w) (.int .i64) (z.ev C.G ρ) (a.eval y) := by
          intro lo le h1 h2
          cases lo with
          | none => exact .inl ⟨rfl, by simpa using h2.symm⟩
          | some y =>
            simp only [Option.map_some, Option.some.injEq] at h1
            cases hy : (ev [] y).bind exI with
            | none => exact absurd hy h1
            | some z =>
              simp only [Option.map_some, hy, Option.bind_some, id] at h2
              cases hy2 : ev [] y with
              | none => simp [hy2] at hy
              | some u =>
                simp only [hy2, Option.bind_some] at hy
                have := exI_ok hy
                subst this
                exact .inr ⟨y, z, rfl, h2.symm, hev0 _ _ hy2⟩
        cases hs : sliceV C ob t v le he with
        | none => simp [hs] at hr
        | some q =>
          obtain ⟨c, z, ns⟩ := q
          simp only [hs] at hr
          cases hf : frzs C ob ns ns with
          | none => simp [hf] at hr
          | some fs =>
            simp only [hf, Option.some.injEq] at hr
            subst hr
            exact cut_ok H h hpc hob hop (hev0 _ _ hx) hs hf hpass.all (bd lo le hno.1 hle) (bd hi he hno.2 hhe)
  | fieldAddr st x i =>
    simp only [hop] at hr
    cases hx : ev [] x with
    | none => simp [hx] at hr
    | some v =>
      simp only [hx] at hr
      cases hf : fieldSV C st i v with
      | none => simp [hf] at hr
      | some z =>
        simp only [hf] at hr
        obtain ⟨y, h1, h2⟩ := fieldSV_ok H hf (hev0 _ _ hx)
        exact pures_ok hr h (by simp [execOp, hop, h1]) h2
  | field t x i =>
    simp only [hop] at hr
    cases hx : ev [] x with
    | none => simp [hx] at hr
    | some v =>
      simp only [hx] at hr
      cases hf : parts C t v with
      | none => simp [hf] at hr
      | some l =>
        simp only [hf] at hr
        cases hi : l[i]? with
        | none => simp [hi] at hr
        | some z =>
          simp only [hi] at hr
          obtain ⟨y, h1, h2⟩ := field_get H hf hi (hev0 _ _ hx)
          exact pures_ok hr h (by simp [execOp, hop, h1]) h2
  | indexAddr t x i =>
    simp only [hop] at hr
    cases hx : ev [] x with
    | none => simp [hx] at hr
    | some v =>
      cases hi : (ev [] i).bind exI with
      | none => simp [hx, hi] at hr
      | some e =>
        simp only [hx, hi] at hr
        cases hq : idxAddr C ob t v e with
        | none => simp [hq] at hr
        | some q =>
          obtain ⟨l, z⟩ := q
          simp only [hq] at hr
          cases hi2 : ev [] i with
          | none => simp [hi2] at hi
          | some u =>
            simp only [hi2, Option.bind_some] at hi
            have := exI_ok hi
            subst this
            obtain ⟨m, h1, h2, _⟩ := RepV.int (hev0 _ _ hi2)
            have hr' := hr
            simp only [pures, Option.some.injEq] at hr'
            obtain ⟨y, h3, h4⟩ := idxAddr_ok H hobR hq (hev0 _ _ hx) h1 (Passed.all (n := n) (Γ := Γ) (by rw [← hr'] at hpass; exact hpass))
            exact pures_ok hr h (by simp [execOp, hop, h2, h3]) h4
  | index t x i =>
    simp only [hop] at hr
    cases hx : ev [] x with
    | none => simp [hx] at hr
    | some v =>
      cases hi : (ev [] i).bind exI with
      | none => simp [hx, hi] at hr
      | some e =>
        cases v with
        | dat k sx =>
          cases k with
          | str =>
            simp only [hx, hi] at hr
            split at hr
            · rename_i hk
              cases hi2 : ev [] i with
              | none => simp [hi2] at hi
              | some u =>
                simp only [hi2, Option.bind_some] at hi
                have := exI_ok hi
                subst this
                obtain ⟨m, h1, h2, _⟩ := RepV.int (hev0 _ _ hi2)
                obtain ⟨S, h3, h4, _⟩ := RepV.str (hev0 _ _ hx)
                have hr' := hr
                simp only [pures, List.map_cons, List.map_nil, Option.some.injEq] at hr'
                have hc := hpass.chk (.bin .inb (.un .slen sx) e) (by rw [← hr']; simp)
                simp only [Ex.ev, U1.ev, U2.ev, h1, h3, D.asS, asI_int, D.asB, decide_eq_true_eq] at hc
                have hlt : m.toNat < S.length := by omega
                refine pures_ok hr h (x := .int .u8 ((S.getD m.toNat 0).toNat : Nat)) ?_ ?_
                · have hu := (str_fact H hk).1
                  have hget : (⟨S.toArray⟩ : ByteArray)[m.toNat]? = some (S.getD m.toNat 0) := by
                    rw [getElem?_pos (⟨S.toArray⟩ : ByteArray) m.toNat (by show _ < S.toArray.size; simpa using hlt)]
                    show some (S.toArray[m.toNat]'_) = _
                    simp [List.getD, hlt]
                  simp [execOp, hop, h2, h4, Instr.index, asIntOf, run_underlying hu, hc.1, hget]
                · simp only [RepSV, Ex.ev, U2.ev, h1, h3, D.asS, asI_int]
                  exact RepV.mkInt (by
                    generalize S.getD m.toNat 0 = b8
                    have := b8.toNat_lt
                    simp [IntKind.min, IntKind.max, IntKind.signed, IntKind.bits]
                    omega)
            · simp at hr
          | _ => simp [hx, hi] at hr
        | _ => simp [hx, hi] at hr
  | extract x i =>
    simp only [hop] at hr
    cases hx : ev [] x with
    | none => simp [hx] at hr
    | some v =>
      cases v with
      | tup l =>
        simp only [hx] at hr
        cases hi : l[i]? with
        | none => simp [hi] at hr
        | some z =>
          simp only [hi] at hr
          obtain ⟨vs, h1, h2⟩ := hev0 _ _ hx
          obtain ⟨y, h3, h4⟩ := h2.get hi
          exact pures_ok hr h (x := y) (by simp [execOp, hop, h1, Instr.extract, h3]) h4
      | _ => simp [hx] at hr
  | makeSlice t l c =>
    simp only [hop] at hr
    cases hk : C.kd t <;> try (simp [hk] at hr; done)
    rename_i e
    cases hl : (ev [] l).bind exI with
    | none => simp [hk, hl] at hr
    | some x =>
      cases hc : (ev [] c).bind exI with
      | none => simp [hk, hl, hc] at hr
      | some y =>
        simp only [hk, hl, hc] at hr
        cases hz : C.zero e with
        | none => simp [hz] at hr
        | some z =>
          simp only [hz] at hr
          have get : ∀ (i : Operand) (e : Ex), (ev [] i).bind exI = some e → RepV C w (okk C w0 ok0 ρ s β w) (.int .i64) (e.ev C.G ρ) (a.eval i) := fun i e hi => by
            cases hi2 : ev [] i with
            | none => simp [hi2] at hi
            | some u =>
              simp only [hi2, Option.bind_some] at hi
              have := exI_ok hi
              subst this
              exact hev0 _ _ hi2
          cases hne : C.nestOf (o.dst.getD 0) e with
          | none =>
            simp only [hne, Option.some.injEq] at hr
            subst hr
            simp only [List.all_cons, List.all_nil, Bool.and_true] at hup hnw
            have hch := hpass.chk _ (List.mem_singleton.2 rfl)
            exact make_ok H h hpc hop hk hz (get _ _ hl) (get _ _ hc) (by simp only [Ex.ev, U2.ev, D.asB] at hch ⊢; rw [hch]) hup (by simpa using hnw)
          | some f =>
            simp only [hne, Option.some.injEq] at hr
            subst hr
            simp only [List.all_cons, List.all_nil, Bool.and_true] at hup hnw
            have hch := hpass.chk _ (List.mem_singleton.2 rfl)
            exact makeN_ok H h hpc hop hk hz hne (get _ _ hl) (get _ _ hc) (by simp only [Ex.ev, U2.ev, D.asB] at hch ⊢; rw [hch]) hup (by simpa using hnw)
  | call c =>
    simp only [hop] at hr
    cases ha : exIs (ev []) c.args.toList with
    | none => simp [ha] at hr
    | some args =>
      have hA := exIs_ok hev0 ha
      simp only [ha] at hr
      cases hcal : c.callee with
      | value f =>
        simp only [hcal] at hr
        cases hf : ev [] f with
        | none => simp [hf] at hr
        | some v =>
          cases v with
          | fnc g first cap =>
            simp only [hf] at hr
            obtain ⟨v1, v2, h1, h2, h3⟩ := hev0 _ _ hf
            exact callF_ok H HG Hok h hpc hob hop hcal h1 (RepSVs.append2 (RepSVs.append2 h2 hA) h3) hr (HS g) hup hnw fun m es hp => hpass.call m g es hp
          | dat k e =>
            cases k with
            | func t =>
              simp only [hf] at hr
              exact callV_ok H HG Hok h hpc hob hop hcal (hev0 _ _ hf) hA hr HS hup hpass.callv
            | _ => simp [hf] at hr
          | alt i l =>
            simp only [hf] at hr
            exact callA_ok H HG Hok h hpc hob hop hcal (hev0 _ _ hf) hA hr HS hup hnw hpass.callv
          | _ => simp [hf] at hr
      | builtin b =>
        have hB := resolve_builtin (C := C) (a := a) (w := w) hop hcal
        have hargs : ∀ l : List Value, c.args.toList.map a.eval = l → c.args.map a.eval = l.toArray := fun l hl => by
          apply Array.ext'; rw [Array.toList_map, hl]
        cases b with
        | len =>
          simp only [hcal] at hr
          cases args with
          | nil => simp at hr
          | cons v l =>
            cases l with
            | cons _ _ => simp at hr
            | nil =>
              cases hat : c.argTypes.toList with
              | nil => simp [hat] at hr
              | cons t l =>
                cases l with
                | cons _ _ => simp [hat] at hr
                | nil =>
                  simp only [hat] at hr
                  obtain ⟨x, r', e1, e2, e3⟩ := hA
                  simp only [RepSVs] at e3
                  subst e3
                  have hx := hargs _ e1
                  have ht : c.argTypes = #[t] := by apply Array.ext'; rw [hat]
                  cases hk : C.kd t with
                  | str =>
                    simp only [hk] at hr
                    cases v with
                    | dat k e =>
                      cases k with
                      | str =>
                        simp only at hr
                        obtain ⟨S, h3, h4, h5⟩ := RepV.str e2
                        have hu := (str_fact H hk).1
                        refine pures_ok hr h (x := goInt S.length) ?_ ?_
                        · rw [hB, hx, ht]
                          simp [builtin, Builtin.len_, run_underlying hu, h4, bytes_size]
                        · simp only [RepSV, Ex.ev, U1.ev, h3, D.asS]
                          exact RepV.mkInt (by simp [IntKind.min, IntKind.max, IntKind.signed, IntKind.bits]; omega)
                      | _ => simp at hr
                    | _ => simp at hr
                  | slice e =>
                    simp only [hk] at hr
                    cases hl : lenOf C ob v with
                    | none => simp [hl] at hr
                    | some le =>
                      simp only [hl] at hr
                      obtain ⟨n', h3, h4, q, cp, h5⟩ := lenOf_ok H hobR hl e2
                      have hu := (slice_fact H hk).1
                      refine pures_ok hr h (x := goInt n') ?_ ?_
                      · rw [hB, hx, ht]
                        simp [builtin, Builtin.len_, run_underlying hu, h5]
                      · simp only [RepSV, h3]
                        exact RepV.mkInt (by simp [IntKind.min, IntKind.max, IntKind.signed, IntKind.bits]; omega)
                  | _ => simp [hk] at hr
        | append =>
          simp only [hcal] at hr
          match args, hA, hr with
          | [sv, xv], hA, hr =>
            cases hat : c.argTypes.toList with
            | nil => simp [hat] at hr
            | cons t l =>
              cases l with
              | nil => simp [hat] at hr
              | cons t' l =>
                cases l with
                | cons _ _ => simp [hat] at hr
                | nil =>
                  simp only [hat] at hr
                  split at hr
                  · rename_i htt
                    subst htt
                    obtain ⟨x, r', e1, e2, y, r2, e3, e4, e5⟩ := hA
                    simp only [RepSVs] at e5
                    subst e5
                    subst e3
                    obtain ⟨ps, hps⟩ : ∃ ps, c.args.toList = ps := ⟨_, rfl⟩
                    match ps, hps with
                    | [p1, p2], hps =>
                      rw [hps] at e1
                      simp only [List.map_cons, List.map_nil, List.cons.injEq, and_true] at e1
                      obtain ⟨rfl, rfl⟩ := e1
                      have hop' : o.op = .call { callee := .builtin .append, args := #[p1, p2], argTypes := #[t, t] } := by
                        rw [hop]
                        congr 1
                        cases c
                        simp only at hcal hps hat
                        subst hcal
                        congr 1
                        · apply Array.ext'; show _ = [p1, p2]; assumption
                        · apply Array.ext'; show _ = [t, t]; assumption
                      unfold appV at hr
                      cases hk : C.kd t with
                      | slice e =>
                        simp only [hk] at hr
                        split at hr
                        · rename_i hz
                          cases hsrc : srcOf C ob e xv with
                          | none => simp [hsrc] at hr
                          | some cx =>
                            simp only [hsrc] at hr
                            have hT := typ_ok (k := .slice e) e2
                            cases htv : typ C (.slice e) sv with
                            | nils e' =>
                              simp only [htv] at hr
                              split at hr
                              · rename_i he
                                subst he
                                simp only [Option.some.injEq] at hr
                                subst hr
                                rw [htv] at hT
                                simp only [List.all_cons, List.all_nil, Bool.and_true] at hup hnw
                                have hch := hpass.chk _ (List.mem_singleton.2 rfl)
                                exact app_new H h hpc hob hop' hk hz hT e4 hsrc (by simp only [Ex.ev, U2.ev, D.asB] at hch ⊢; rw [hch]) hup (by simpa using hnw)
                              · simp at hr
                            | sli m ver e' =>
                              simp only [htv] at hr
                              cases hm : ob m with
                              | none => simp [hm] at hr
                              | some o' =>
                                cases o' with
                                | arr e'' c' ver' =>
                                  simp only [hm] at hr
                                  split at hr
                                  · rename_i he
                                    obtain ⟨rfl, rfl, rfl⟩ := he
                                    simp only [Option.some.injEq] at hr
                                    subst hr
                                    rw [htv] at hT
                                    simp only [List.all_cons, List.all_nil, Bool.and_true] at hup hnw
                                    have hch := hpass.chk _ (List.mem_singleton.2 rfl)
                                    exact app_old H h hpc hob hop' hk hz hT hm e4 hsrc (by simp only [Ex.ev, U2.ev, D.asB] at hch ⊢; rw [hch]) hup
                                  · simp at hr
                                | _ => simp [hm] at hr
                            | nrow m rv i e' =>
                              simp only [htv] at hr
                              cases hm : ob m with
                              | none => simp [hm] at hr
                              | some o' =>
                                cases o' with
                                | narr ea f c ver rv' hole =>
                                  cases hole with
                                  | some y => simp [hm] at hr
                                  | none =>
                                    simp only [hm] at hr
                                    split at hr
                                    · rename_i he
                                      obtain ⟨rfl, rfl, hrow⟩ := he
                                      simp only [Option.some.injEq] at hr
                                      subst hr
                                      rw [htv] at hT
                                      simp only [List.all_cons, List.all_nil, Bool.and_true] at hup hnw
                                      have hch := hpass.chk _ (List.mem_singleton.2 rfl)
                                      exact appN_ok H h hpc hob hop' hk hz hT hm hrow e4 hsrc (by simp only [Ex.ev, U2.ev, D.asB] at hch ⊢; rw [hch]) hup
                                    · simp at hr
                                | _ => simp [hm] at hr
                            | _ => simp [htv] at hr
                        · simp at hr
                      | _ => simp [hk] at hr
                    | [], hps => rw [hps] at e1; simp at e1
                    | [_], hps => rw [hps] at e1; simp at e1
                    | _ :: _ :: _ :: _, hps => rw [hps] at e1; simp at e1
                  · simp at hr
          | [], _, hr => simp at hr
          | [_], _, hr => simp at hr
          | _ :: _ :: _ :: _, _, hr => simp at hr
        | max =>
          simp only [hcal] at hr
          split at hr
          · rename_i k x l
            cases hi : intsOf k (.dat (.int k) x :: l) with
            | none => simp [hi] at hr
            | some es =>
              simp only [hi] at hr
              obtain ⟨ns, k1, k2, k3⟩ := intsOf_ok hi hA
              simp only [intsOf, if_true] at hi
              cases hi2 : intsOf k l with
              | none => simp [hi2] at hi
              | some es' =>
                simp only [hi2, Option.map_some, Option.some.injEq] at hi
                subst hi
                cases ns with
                | nil => simp at k1
                | cons m ns =>
                  simp only [List.map_cons, List.cons.injEq] at k1
                  simp only [mmV, Option.bind_some] at hr
                  refine pures_ok hr h (x := .int k (ns.foldl (fun a b => if b > a then b else a) m)) ?_ ?_
                  · rw [hB, hargs _ k2]
                    have := mm_run (C := C) (w := w) (f := Builtin.max2) (g := fun a b => if b > a then b else a) (k := k) (fun a b => rfl) ns m
                    simp only [builtin, Builtin.max_, List.map_cons, Sem.run_bind, Sem.run_pure, Result.andThen_ok] at this ⊢
                    rw [this]
                    rfl
                  · simp only [RepSV]
                    rw [mm_fold (g := fun a b => if b > a then b else a) (fun a b => rfl) es' ns x m k1.2 k1.1]
                    exact RepV.mkInt (mm_in (fun a b => by by_cases h : b > a <;> simp [h]) ns m (k3 m (List.mem_cons_self ..)) fun q hq => k3 q (List.mem_cons_of_mem _ hq))
          · simp at hr
        | min =>
          simp only [hcal] at hr
          split at hr
          · rename_i k x l
            cases hi : intsOf k (.dat (.int k) x :: l) with
            | none => simp [hi] at hr
            | some es =>
              simp only [hi] at hr
              obtain ⟨ns, k1, k2, k3⟩ := intsOf_ok hi hA
              simp only [intsOf, if_true] at hi
              cases hi2 : intsOf k l with
              | none => simp [hi2] at hi
              | some es' =>
                simp only [hi2, Option.map_some, Option.some.injEq] at hi
                subst hi
                cases ns with
                | nil => simp at k1
                | cons m ns =>
                  simp only [List.map_cons, List.cons.injEq] at k1
                  simp only [mmV, Option.bind_some] at hr
                  refine pures_ok hr h (x := .int k (ns.foldl (fun a b => if b < a then b else a) m)) ?_ ?_
                  · rw [hB, hargs _ k2]
                    have := mm_run (C := C) (w := w) (f := Builtin.min2) (g := fun a b => if b < a then b else a) (k := k) (fun a b => rfl) ns m
                    simp only [builtin, Builtin.min_, List.map_cons, Sem.run_bind, Sem.run_pure, Result.andThen_ok] at this ⊢
                    rw [this]
                    rfl
                  · simp only [RepSV]
                    rw [mm_fold (g := fun a b => if b < a then b else a) (fun a b => rfl) es' ns x m k1.2 k1.1]
                    exact RepV.mkInt (mm_in (fun a b => by by_cases h : b < a <;> simp [h]) ns m (k3 m (List.mem_cons_self ..)) fun q hq => k3 q (List.mem_cons_of_mem _ hq))
          · simp at hr
        | _ => simp [hcal] at hr
      | _ => simp [hcal] at hr
  | _ => simp [hop] at hr
end
end Sy
