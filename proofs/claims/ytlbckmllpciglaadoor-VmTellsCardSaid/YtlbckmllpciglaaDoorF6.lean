/- The framework, part 6: SyMatch, SyMatch2, SyDecomp, SyDecomp2, SyDecomp3, SyFun -/
import Derived.Test.YtlbckmllpciglaaDoorF5
import Derived.LoopN
import Derived.Scope
set_option linter.unusedVariables false
set_option linter.unusedSimpArgs false
set_option linter.all false

/- Where ways meet. -/
namespace Sy
open Go Go.RowKit

def Pfx {α : Type} (a b : List α) : Prop := ∃ r, b = a ++ r
theorem Pfx.refl {α : Type} (a : List α) : Pfx a a := ⟨[], by simp⟩
theorem Pfx.trans {α : Type} {a b c : List α} (h : Pfx a b) (k : Pfx b c) : Pfx a c := by
  obtain ⟨r, rfl⟩ := h
  obtain ⟨q, rfl⟩ := k
  exact ⟨r ++ q, by simp⟩

theorem matchE_pfx {n : Nat} {p e : Ex} {acc acc' : List Ex} (h : matchE n p e acc = some acc') : Pfx acc acc' := by
  unfold matchE at h
  split at h
  · simp only [Option.some.injEq] at h; exact ⟨[e], h.symm⟩
  · split at h
    · simp only [Option.some.injEq] at h; exact ⟨[], by simp [h]⟩
    · simp at h
theorem evs_get {G : Nat → D} {ρ : List D} : ∀ {l : List Ex} {i : Nat} {e : Ex}, l[i]? = some e → (evs G ρ l)[i]? = some (e.ev G ρ)
  | [], _, _, h => by simp at h
  | x :: l, 0, e, h => by simp only [List.getElem?_cons_zero, Option.some.injEq] at h; subst h; rfl
  | x :: l, i + 1, e, h => by simpa [evs] using evs_get (l := l) (i := i) (by simpa using h)
theorem matchE_ev {G : Nat → D} {ρ0 ext : List D} {p e : Ex} {acc acc' vs : List Ex} (h : matchE ρ0.length p e acc = some acc') (hv : Pfx acc' vs) : p.ev G (ρ0 ++ pad vs.length (evs G (ρ0 ++ ext) vs)) = e.ev G (ρ0 ++ ext) := by
  unfold matchE at h
  split at h
  · rename_i hp
    subst hp
    simp only [Option.some.injEq] at h
    subst h
    obtain ⟨r, rfl⟩ := hv
    simp only [Ex.ev]
    exact at_pad (evs_get (by simp)) (by simp)
  · split at h
    · rename_i hp
      obtain ⟨rfl, hs⟩ := hp
      rw [Ex.ev_append hs, Ex.ev_append hs]
    · simp at h

section
variable {C : Ctx} {n0 : Nat} {s : S} {ob' : Obs}
mutual
theorem matchV_pfx : ∀ {p v : SV} {acc acc' : List Ex}, matchV C n0 s ob' p v acc = some acc' → Pfx acc acc'
  | .dat k p, v, acc, acc', h => by
    simp only [matchV] at h
    split at h
    · exact matchE_pfx h
    · simp at h
  | .nils e, v, acc, acc', h => by
    cases v <;> simp only [matchV, reduceCtorEq] at h
    split at h
    · simp only [Option.some.injEq] at h; exact ⟨[], by simp [h]⟩
    · simp at h
  | .sli m ver e, v, acc, acc', h => by
    cases v <;> simp only [matchV, reduceCtorEq] at h
    · split at h
      · split at h
        · split at h
          · simp only [Option.some.injEq] at h; exact ⟨[], by simp [h]⟩
          · simp at h
        · simp at h
      · simp at h
    · split at h
      · split at h
        · split at h
          · simp only [Option.some.injEq] at h; exact ⟨[], by simp [h]⟩
          · simp at h
        · split at h
          · simp only [Option.some.injEq] at h; exact ⟨[], by simp [h]⟩
          · simp at h
        · simp at h
      · simp at h
  | .bptr m p t, v, acc, acc', h => by
    cases v <;> simp only [matchV, reduceCtorEq] at h
    split at h
    · simp only [Option.some.injEq] at h; exact ⟨[], by simp [h]⟩
    · simp at h
  | .agg t ps, v, acc, acc', h => by
    simp only [matchV] at h
    split at h
    · split at h
      · exact matchVs_pfx h
      · simp at h
    · simp at h
  | .fnc f a b, v, acc, acc', h => by
    cases v <;> simp only [matchV, reduceCtorEq] at h
    split at h
    · split at h
      · rename_i h1
        exact (matchVs_pfx h1).trans (matchVs_pfx h)
      · simp at h
    · simp at h
  | .tab e ps, v, acc, acc', h => by
    cases v <;> simp only [matchV, reduceCtorEq] at h
    split at h
    · exact matchVs_pfx h
    · simp at h
  | .tptr .., v, acc, acc', h => by simp [matchV] at h
  | .alt .., v, acc, acc', h => by simp [matchV] at h
  | .nilq _, v, acc, acc', h => by simp [matchV] at h
  | .nrow .., v, acc, acc', h => by simp [matchV] at h
  | .junk, v, acc, acc', h => by
    simp only [matchV, Option.some.injEq] at h
    exact ⟨[], by simp [h]⟩
  | .nil0, v, acc, acc', h => by simp [matchV] at h
  | .nilp, v, acc, acc', h => by simp [matchV] at h
  | .eptr .., v, acc, acc', h => by simp [matchV] at h
  | .tup _, v, acc, acc', h => by simp [matchV] at h
  | .gd .., v, acc, acc', h => by simp [matchV] at h
theorem matchVs_pfx : ∀ {ps vs : List SV} {acc acc' : List Ex}, matchVs C n0 s ob' ps vs acc = some acc' → Pfx acc acc'
  | [], [], acc, acc', h => by
    simp only [matchVs, Option.some.injEq] at h
    exact ⟨[], by simp [h]⟩
  | p :: ps, v :: vs, acc, acc', h => by
    simp only [matchVs] at h
    split at h
    · rename_i h1
      exact (matchV_pfx h1).trans (matchVs_pfx h)
    · simp at h
  | [], _ :: _, acc, acc', h => by simp [matchVs] at h
  | _ :: _, [], acc, acc', h => by simp [matchVs] at h
end
end

/-- Where the objects lie, as a template names them. -/
def Be.tm (β : Be) (s : S) (tob : Obs) : Be where
  bk := β.bk
  vl := fun n ver => match look s.ob n with
    | some (_, .arr _ _ v) => β.vl n v
    | some (_, .narr _ _ _ v rv _) => if ver = 0 then β.vl n v else β.vl n rv
    | some _ => β.vl n ver
    | none => .slice none 0 0
  ty := fun n => match look s.ob n, tob n with
    | none, some (.arr e _ _) => e
    | _, _ => β.ty n

/-- A slice of a template that is nil now is named nowhere. -/
def Absent (s : S) (tob : Obs) (m : Nat) : Prop := look s.ob m = none ∧ ∃ e c v, tob m = some (.arr e c v)
theorem Be.tm_ty {β : Be} {s : S} {tob : Obs} {m : Nat} (h : ¬ Absent s tob m) : (β.tm s tob).ty m = β.ty m := by
  simp only [Be.tm]
  split
  · rename_i e c v h1 h2
    exact absurd ⟨h1, _, _, _, h2⟩ h
  · rfl

section
variable {C : Ctx} {w0 : World} {ρ0 ext : List D} {s : S} {β : Be} {w : World} {ok : Nat → Prop} {tob : Obs} {vs : List Ex}

theorem spread_free {m : Nat} {e : Ex} : ∀ {fs : List Nat} {i : Nat}, SV.frees m (spread C e fs i) = true
  | [], _ => rfl
  | _ :: fs, i => by simp [spread, SV.frees, SV.free, spread_free (fs := fs)]
theorem parts_free {m t : Nat} {v : SV} {l : List SV} (h : parts C t v = some l) (hf : v.free m = true) : SV.frees m l = true := by
  unfold parts at h
  cases v with
  | agg t' l' =>
    simp only at h
    split at h
    · simp only [Option.some.injEq] at h; subst h; exact hf
    · simp at h
  | dat k e =>
    simp only at h
    split at h
    · cases hfs : C.fields t with
      | none => simp [hfs] at h
      | some fs =>
        simp only [hfs, Option.map_some, Option.some.injEq] at h
        subst h
        exact spread_free
    · simp at h
  | _ => simp at h

mutual
theorem matchV_sc (H : COK C) (hob : ∀ m o, obsOf s [] m = some o → RepOb C w0 (ρ0 ++ ext) β w ok m o) : ∀ {p v : SV} {acc acc' : List Ex} {k : K} {cs : List Value}, matchV C ρ0.length s tob p v acc = some acc' → Pfx acc' vs → (∀ m, Absent s tob m → v.free m = true) → fitsK C k p = true → RepSc C (ρ0 ++ ext) β w ok v k cs →
    RepSc C (ρ0 ++ pad vs.length (evs C.G (ρ0 ++ ext) vs)) (β.tm s tob) w ok p k cs
  | .dat k' p, v, acc, acc', k, cs, h, hp, hf, hk, hx => by
    simp only [fitsK, decide_eq_true_eq] at hk
    subst hk
    simp only [matchV] at h
    split at h
    · rename_i e hd
      have h1 := (toD_all H hob depth).1 _ _ _ _ _ hd hx
      refine ⟨rfl, ?_⟩
      rw [matchE_ev h hp]
      exact h1.keep (fun b hb => hb.elim id fun ⟨m, hm, _⟩ => by simp at hm) fun _ _ => rfl
    · simp at h
  | .nils e, v, acc, acc', k, cs, h, hp, hf, hk, hx => by
    cases v <;> simp only [matchV, reduceCtorEq] at h
    split at h
    · rename_i he; subst he; exact hx
    · simp at h
  | .sli m ver e, v, acc, acc', k, cs, h, hp, hf, hk, hx => by
    cases v <;> simp only [matchV, reduceCtorEq] at h
    · rename_i e'
      split at h
      · rename_i he
        obtain ⟨rfl, rfl⟩ := he
        split at h
        · rename_i e'' c v' h1 h2
          split at h
          · rename_i hc
            obtain ⟨_, _, hl⟩ := hc
            have hl' : look s.ob m = none := by simpa using hl
            obtain ⟨rfl, rfl⟩ := hx
            have : (β.tm s tob).vl m 0 = .slice none 0 0 := by simp only [Be.tm, hl']
            exact ⟨rfl, by rw [this], by rw [this]; exact ⟨_, _, _, rfl⟩⟩
          · simp at h
        · simp at h
      · simp at h
    · rename_i m' ver' e'
      split at h
      · rename_i he
        obtain ⟨rfl, rfl, rfl⟩ := he
        split at h
        · rename_i v1 _ _ v2 h1 h2
          split at h
          · rename_i hc
            obtain ⟨rfl, _⟩ := hc
            obtain ⟨q, hl, _⟩ := obsOf_some h1
            have : (β.tm s tob).vl m 0 = β.vl m ver' := by simp only [Be.tm, hl]
            obtain ⟨g1, g2, g3⟩ := hx
            exact ⟨g1, by rw [this]; exact g2, by rw [this]; exact g3⟩
          · simp at h
        · rename_i v1 _ _ _ _ _ v2 _ _ h1 h2
          split at h
          · rename_i hc
            obtain ⟨rfl, _⟩ := hc
            obtain ⟨q, hl, _⟩ := obsOf_some h1
            have : (β.tm s tob).vl m 0 = β.vl m ver' := by simp only [Be.tm, hl, if_true]
            obtain ⟨g1, g2, g3⟩ := hx
            exact ⟨g1, by rw [this]; exact g2, by rw [this]; exact g3⟩
          · simp at h
        · simp at h
      · simp at h
  | .bptr m p t, v, acc, acc', k, cs, h, hp, hf, hk, hx => by
    cases v <;> simp only [matchV, reduceCtorEq] at h
    split at h
    · rename_i he
      obtain ⟨rfl, rfl, rfl⟩ := he
      obtain ⟨g1, off, g2, g3⟩ := hx
      have hna : ¬ Absent s tob m := fun ha => by
        have := hf m ha
        simp [SV.free] at this
      exact ⟨g1, off, by rw [Be.tm_ty hna]; exact g2, g3⟩
    · simp at h
  | .agg t ps, v, acc, acc', k, cs, h, hp, hf, hk, hx => by
    simp only [matchV] at h
    split at h
    · rename_i l fs h1 h2
      split at h
      · rename_i h3
        simp only [fitsK, Bool.and_eq_true, decide_eq_true_eq] at hk
        obtain ⟨rfl, _⟩ := hk
        obtain ⟨fs', h4, h5⟩ := parts_ok h1 hx
        rw [h2] at h4
        simp only [Option.some.injEq] at h4
        subst h4
        exact ⟨rfl, fs, h2, matchVs_sc H hob h hp (fun m hm => parts_free h1 (hf m hm)) h3 h5⟩
      · simp at h
    · simp at h
  | .fnc f a b, v, acc, acc', k, cs, h, hp, hf, hk, hx => by simp [fitsK] at hk
  | .tab .., v, acc, acc', k, cs, h, hp, hf, hk, hx => by simp [fitsK] at hk
  | .tptr .., v, acc, acc', k, cs, h, hp, hf, hk, hx => by simp [fitsK] at hk
  | .alt .., v, acc, acc', k, cs, h, hp, hf, hk, hx => by simp [fitsK] at hk
  | .nilq _, v, acc, acc', k, cs, h, hp, hf, hk, hx => by simp [fitsK] at hk
  | .nrow .., v, acc, acc', k, cs, h, hp, hf, hk, hx => by simp [fitsK] at hk
  | .junk, v, acc, acc', k, cs, h, hp, hf, hk, hx => by simp [fitsK] at hk
  | .nil0, v, acc, acc', k, cs, h, hp, hf, hk, hx => by simp [fitsK] at hk
  | .nilp, v, acc, acc', k, cs, h, hp, hf, hk, hx => by simp [fitsK] at hk
  | .eptr .., v, acc, acc', k, cs, h, hp, hf, hk, hx => by simp [fitsK] at hk
  | .tup _, v, acc, acc', k, cs, h, hp, hf, hk, hx => by simp [fitsK] at hk
  | .gd .., v, acc, acc', k, cs, h, hp, hf, hk, hx => by simp [fitsK] at hk
theorem matchVs_sc (H : COK C) (hob : ∀ m o, obsOf s [] m = some o → RepOb C w0 (ρ0 ++ ext) β w ok m o) : ∀ {ps l : List SV} {acc acc' : List Ex} {fs : List Nat} {cs : List Value}, matchVs C ρ0.length s tob ps l acc = some acc' → Pfx acc' vs → (∀ m, Absent s tob m → SV.frees m l = true) → fitsKs C fs ps = true → RepScs C (ρ0 ++ ext) β w ok l fs cs →
    RepScs C (ρ0 ++ pad vs.length (evs C.G (ρ0 ++ ext) vs)) (β.tm s tob) w ok ps fs cs
  | [], [], acc, acc', fs, cs, h, hp, hf, hk, hx => hx
  | p :: ps, v :: l, acc, acc', fs, cs, h, hp, hf, hk, hx => by
    obtain ⟨t, ts, c1, c2, rfl, rfl, g1, g2⟩ := hx
    simp only [fitsKs, Bool.and_eq_true] at hk
    simp only [matchVs] at h
    split at h
    · rename_i acc1 h1
      exact ⟨t, ts, c1, c2, rfl, rfl, matchV_sc H hob h1 ((matchVs_pfx h).trans hp) (fun m hm => by have := hf m hm; simp only [SV.frees, Bool.and_eq_true] at this; exact this.1) hk.1 g1,
        matchVs_sc H hob h hp (fun m hm => by have := hf m hm; simp only [SV.frees, Bool.and_eq_true] at this; exact this.2) hk.2 g2⟩
    · simp at h
  | [], _ :: _, acc, acc', fs, cs, h, hp, hf, hk, hx => by simp [matchVs] at h
  | _ :: _, [], acc, acc', fs, cs, h, hp, hf, hk, hx => by simp [matchVs] at h
end

mutual
theorem matchV_sv (H : COK C) (hob : ∀ m o, obsOf s [] m = some o → RepOb C w0 (ρ0 ++ ext) β w ok m o) : ∀ {p v : SV} {acc acc' : List Ex} {x : Value}, matchV C ρ0.length s tob p v acc = some acc' → Pfx acc' vs → (∀ m, Absent s tob m → v.free m = true) → RepSV C (ρ0 ++ ext) β w ok v x →
    RepSV C (ρ0 ++ pad vs.length (evs C.G (ρ0 ++ ext) vs)) (β.tm s tob) w ok p x
  | .dat k' p, v, acc, acc', x, h, hp, hf, hx => by
    simp only [matchV] at h
    split at h
    · rename_i e hd
      have h1 := (toD_all H hob depth).2.1 _ _ _ _ _ hd hx
      simp only [RepSV]
      rw [matchE_ev h hp]
      exact h1.keep (fun b hb => hb.elim id fun ⟨m, hm, _⟩ => by simp at hm) fun _ _ => rfl
    · simp at h
  | .nils e, v, acc, acc', x, h, hp, hf, hx => by
    cases v <;> simp only [matchV, reduceCtorEq] at h
    split at h
    · exact hx
    · simp at h
  | .sli m ver e, v, acc, acc', x, h, hp, hf, hx => by
    cases v <;> simp only [matchV, reduceCtorEq] at h
    · rename_i e'
      split at h
      · rename_i he
        obtain ⟨rfl, rfl⟩ := he
        split at h
        · rename_i e'' c v' h1 h2
          split at h
          · rename_i hc
            obtain ⟨_, _, hl⟩ := hc
            have hl' : look s.ob m = none := by simpa using hl
            have : (β.tm s tob).vl m 0 = .slice none 0 0 := by simp only [Be.tm, hl']
            exact ⟨by rw [this]; exact hx, by rw [this]; exact ⟨_, _, _, rfl⟩⟩
          · simp at h
        · simp at h
      · simp at h
    · rename_i m' ver' e'
      split at h
      · rename_i he
        obtain ⟨rfl, rfl, rfl⟩ := he
        split at h
        · rename_i v1 _ _ v2 h1 h2
          split at h
          · rename_i hc
            obtain ⟨rfl, _⟩ := hc
            obtain ⟨q, hl, _⟩ := obsOf_some h1
            have : (β.tm s tob).vl m 0 = β.vl m ver' := by simp only [Be.tm, hl]
            obtain ⟨g2, g3⟩ := hx
            exact ⟨by rw [this]; exact g2, by rw [this]; exact g3⟩
          · simp at h
        · rename_i v1 _ _ _ _ _ v2 _ _ h1 h2
          split at h
          · rename_i hc
            obtain ⟨rfl, _⟩ := hc
            obtain ⟨q, hl, _⟩ := obsOf_some h1
            have : (β.tm s tob).vl m 0 = β.vl m ver' := by simp only [Be.tm, hl, if_true]
            obtain ⟨g2, g3⟩ := hx
            exact ⟨by rw [this]; exact g2, by rw [this]; exact g3⟩
          · simp at h
        · simp at h
      · simp at h
  | .bptr m p t, v, acc, acc', x, h, hp, hf, hx => by
    cases v <;> simp only [matchV, reduceCtorEq] at h
    split at h
    · rename_i he
      obtain ⟨rfl, rfl, rfl⟩ := he
      obtain ⟨off, g2, g3⟩ := hx
      have hna : ¬ Absent s tob m := fun ha => by
        have := hf m ha
        simp [SV.free] at this
      exact ⟨off, by rw [Be.tm_ty hna]; exact g2, g3⟩
    · simp at h
  | .agg t ps, v, acc, acc', x, h, hp, hf, hx => by
    simp only [matchV] at h
    split at h
    · rename_i l fs h1 h2
      split at h
      · rename_i h3
        obtain ⟨cs, fs', g1, h4, h5⟩ := hx.toAgg h1
        rw [h2] at h4
        simp only [Option.some.injEq] at h4
        subst h4
        exact ⟨cs, fs, h2, matchVs_sc H hob h hp (fun m hm => parts_free h1 (hf m hm)) h3 h5, g1⟩
      · simp at h
    · simp at h
  | .fnc f a b, v, acc, acc', x, h, hp, hf, hx => by
    cases v <;> simp only [matchV, reduceCtorEq] at h
    rename_i f' a' b'
    split at h
    · rename_i he
      subst he
      split at h
      · rename_i acc1 h1
        obtain ⟨v1, v2, g1, g2, g3⟩ := hx
        exact ⟨v1, v2, g1, matchVs_sv H hob h1 ((matchVs_pfx h).trans hp) (fun m hm => by have := hf m hm; simp only [SV.free, Bool.and_eq_true] at this; exact this.1) g2,
          matchVs_sv H hob h hp (fun m hm => by have := hf m hm; simp only [SV.free, Bool.and_eq_true] at this; exact this.2) g3⟩
      · simp at h
    · simp at h
  | .tab e ps, v, acc, acc', x, h, hp, hf, hx => by
    cases v <;> simp only [matchV, reduceCtorEq] at h
    rename_i e' l
    split at h
    · rename_i he
      subst he
      obtain ⟨b, cap, cs, g1, g2, g3, g4, g5⟩ := hx
      have h1 := matchVs_sv H hob h hp (fun m hm => by have := hf m hm; simpa [SV.free] using this) g4
      have hl : ps.length = l.length := by rw [← RepSVs.len h1, RepSVs.len g4]
      exact ⟨b, cap, cs, by rw [hl]; exact g1, g2, g3, h1, by rw [hl]; exact g5⟩
    · simp at h
  | .tptr .., v, acc, acc', x, h, hp, hf, hx => by simp [matchV] at h
  | .alt .., v, acc, acc', x, h, hp, hf, hx => by simp [matchV] at h
  | .nilq _, v, acc, acc', x, h, hp, hf, hx => by simp [matchV] at h
  | .nrow .., v, acc, acc', x, h, hp, hf, hx => by simp [matchV] at h
  | .junk, v, acc, acc', x, h, hp, hf, hx => trivial
  | .nil0, v, acc, acc', x, h, hp, hf, hx => by simp [matchV] at h
  | .nilp, v, acc, acc', x, h, hp, hf, hx => by simp [matchV] at h
  | .eptr .., v, acc, acc', x, h, hp, hf, hx => by simp [matchV] at h
  | .tup _, v, acc, acc', x, h, hp, hf, hx => by simp [matchV] at h
  | .gd .., v, acc, acc', x, h, hp, hf, hx => by simp [matchV] at h
theorem matchVs_sv (H : COK C) (hob : ∀ m o, obsOf s [] m = some o → RepOb C w0 (ρ0 ++ ext) β w ok m o) : ∀ {ps l : List SV} {acc acc' : List Ex} {xs : List Value}, matchVs C ρ0.length s tob ps l acc = some acc' → Pfx acc' vs → (∀ m, Absent s tob m → SV.frees m l = true) → RepSVs C (ρ0 ++ ext) β w ok l xs →
    RepSVs C (ρ0 ++ pad vs.length (evs C.G (ρ0 ++ ext) vs)) (β.tm s tob) w ok ps xs
  | [], [], acc, acc', xs, h, hp, hf, hx => hx
  | p :: ps, v :: l, acc, acc', xs, h, hp, hf, hx => by
    obtain ⟨x, r, rfl, g1, g2⟩ := hx
    simp only [matchVs] at h
    split at h
    · rename_i acc1 h1
      exact ⟨x, r, rfl, matchV_sv H hob h1 ((matchVs_pfx h).trans hp) (fun m hm => by have := hf m hm; simp only [SV.frees, Bool.and_eq_true] at this; exact this.1) g1,
        matchVs_sv H hob h hp (fun m hm => by have := hf m hm; simp only [SV.frees, Bool.and_eq_true] at this; exact this.2) g2⟩
    · simp at h
  | [], _ :: _, acc, acc', xs, h, hp, hf, hx => by simp [matchVs] at h
  | _ :: _, [], acc, acc', xs, h, hp, hf, hx => by simp [matchVs] at h
end
end

section
variable {C : Ctx} {n0 : Nat} {s : S} {tob : Obs}
theorem matchO_pfx {m : Nat} {o : Ob} {oo : Option Ob} {acc acc' : List Ex} (h : matchO C n0 s tob m o oo acc = some acc') : Pfx acc acc' := by
  unfold matchO at h
  split at h
  · split at h
    · exact matchV_pfx h
    · simp at h
  · split at h
    · exact matchE_pfx h
    · simp at h
  · split at h
    · exact matchE_pfx h
    · simp at h
  · split at h
    · exact matchE_pfx h
    · simp at h
  · simp at h
theorem matchSl_ok : ∀ {l : List (Nat × SV)} {acc acc' : List Ex}, matchSl C n0 s tob l acc = some acc' → Pfx acc acc' ∧ ∀ t p, look l t = some p → ∃ v a1 a2, look s.sl t = some v ∧ matchV C n0 s tob p v a1 = some a2 ∧ Pfx a2 acc'
  | [], acc, acc', h => by
    simp only [matchSl, Option.some.injEq] at h
    exact ⟨⟨[], by simp [h]⟩, by simp [look]⟩
  | (i, p) :: l, acc, acc', h => by
    simp only [matchSl] at h
    split at h
    · rename_i v hv
      split at h
      · rename_i acc1 h1
        obtain ⟨k1, k2⟩ := matchSl_ok h
        refine ⟨(matchV_pfx h1).trans k1, fun t q ht => ?_⟩
        simp only [look] at ht
        split at ht
        · rename_i hi
          subst hi
          simp only [Option.some.injEq] at ht
          subst ht
          exact ⟨v, acc, acc1, hv, h1, k1⟩
        · exact k2 t q ht
      · simp at h
    · simp at h
def obNow (s : S) (m : Nat) : Option Ob := (look s.ob m).map fun x => if x.1.isEmpty then x.2 else .fbox 0 .nil
theorem matchOb_ok : ∀ {l : List (Nat × Ob)} {acc acc' : List Ex}, matchOb C n0 s tob l acc = some acc' → Pfx acc acc' ∧ ∀ m o, look l m = some o → ∃ a1 a2, matchO C n0 s tob m o (obNow s m) a1 = some a2 ∧ Pfx a2 acc'
  | [], acc, acc', h => by
    simp only [matchOb, Option.some.injEq] at h
    exact ⟨⟨[], by simp [h]⟩, by simp [look]⟩
  | (i, o) :: l, acc, acc', h => by
    simp only [matchOb] at h
    split at h
    · rename_i acc1 h1
      obtain ⟨k1, k2⟩ := matchOb_ok h
      refine ⟨(matchO_pfx h1).trans k1, fun m q hm => ?_⟩
      simp only [look] at hm
      split at hm
      · rename_i hi
        subst hi
        simp only [Option.some.injEq] at hm
        subst hm
        exact ⟨acc, acc1, h1, k1⟩
      · exact k2 m q hm
    · simp at h
end
end Sy

/- Where ways meet: a template holds. -/
namespace Sy
open Go Go.RowKit

section
variable {C : Ctx} {w0 : World} {ok0 : Nat → Prop} {ρ0 ext : List D} {s : S} {β : Be} {a : Act} {w : World} {tm : Tm} {vs : List Ex}

theorem obNow_some {m : Nat} {o : Ob} (h : obNow s m = some o) (hm : o.mut = true) : look s.ob m = some ([], o) := by
  unfold obNow at h
  cases hl : look s.ob m with
  | none => simp [hl] at h
  | some x =>
    obtain ⟨q, o'⟩ := x
    simp only [hl, Option.map_some, Option.some.injEq] at h
    split at h
    · rename_i he
      have : q = [] := by simpa using he
      rw [this, h]
    · rw [← h] at hm; simp [Ob.mut] at hm
/-- What a template's object is now. -/
theorem now_ok {m : Nat} {o : Ob} {acc acc' : List Ex} (h : matchO C ρ0.length s (look tm.ob) m o (obNow s m) acc = some acc') :
    (∃ t p v, o = .box t p ∧ look s.ob m = some ([], .box t v) ∧ fitsK C (C.kd t) p = true ∧ matchV C ρ0.length s (look tm.ob) p v acc = some acc') ∨
    (∃ e p c ver, o = .arr e p 0 ∧ look s.ob m = some ([], .arr e c ver) ∧ matchE ρ0.length p c acc = some acc') ∨
    (∃ e f p c ver rv, o = .narr e f p 0 1 none ∧ look s.ob m = some ([], .narr e f c ver rv none) ∧ matchE ρ0.length p c acc = some acc') ∨
    (∃ e p, o = .arr e p 0 ∧ look s.ob m = none ∧ inTab C e = true ∧ slFree m s.sl = true ∧ obFree m s.ob = true ∧ matchE ρ0.length p .lnil acc = some acc') := by
  unfold matchO at h
  split at h
  · rename_i t p t' v hn
    split at h
    · rename_i hc
      obtain ⟨rfl, hk⟩ := hc
      exact .inl ⟨_, _, _, rfl, obNow_some hn rfl, hk, h⟩
    · simp at h
  · rename_i e p ver e' c v hn
    split at h
    · rename_i hc
      obtain ⟨rfl, rfl⟩ := hc
      exact .inr (.inl ⟨_, _, _, _, rfl, obNow_some hn rfl, h⟩)
    · simp at h
  · rename_i hn
    split at h
    · rename_i hc
      obtain ⟨rfl, rfl, rfl, rfl⟩ := hc
      exact .inr (.inr (.inl ⟨_, _, _, _, _, _, rfl, obNow_some hn rfl, h⟩))
    · simp at h
  · rename_i e p ver hn
    split at h
    · rename_i hc
      obtain ⟨rfl, h1, h2, h3⟩ := hc
      refine .inr (.inr (.inr ⟨_, _, rfl, ?_, h1, h2, h3, h⟩))
      unfold obNow at hn
      simpa using hn
    · simp at h
  · simp at h

/-- The template holds. -/
theorem matchT_ok (H : COK C) (h : SimB C w0 ok0 (ρ0 ++ ext) s β a w) (hm : matchT C ρ0.length s tm = some vs) {s0 : S} (hnt : s.nt = s0.nt) : SimB C w0 ok0 (ρ0 ++ pad vs.length (evs C.G (ρ0 ++ ext) vs)) (ofT s0 tm vs.length) (β.tm s (look tm.ob)) a w := by
  have hm2 : ∃ acc0, matchSl C ρ0.length s (look tm.ob) tm.sl [] = some acc0 ∧ matchOb C ρ0.length s (look tm.ob) tm.ob acc0 = some vs := by
    unfold matchT at hm
    split at hm
    · split at hm
      · rename_i acc0 h1
        exact ⟨acc0, h1, hm⟩
      · simp at hm
    · simp at hm
  obtain ⟨acc0, hsl, hm⟩ := hm2
  obtain ⟨p0, hsl'⟩ := matchSl_ok hsl
  obtain ⟨p1, hob'⟩ := matchOb_ok hm
  have hT : ∀ n q o, look (ofT s0 tm vs.length).ob n = some (q, o) → q = [] ∧ look tm.ob n = some o := by
    intro n q o hl
    simp only [ofT, look_putOb] at hl
    cases hh : look tm.ob n with
    | none => simp [hh, look] at hl
    | some o' => simp only [hh, Option.some.injEq, Prod.mk.injEq] at hl; exact ⟨hl.1.symm, by rw [hl.2]⟩
  have hobR : ∀ ok, (∀ b, okk C w0 ok0 (ρ0 ++ ext) s β w b → ok b) → ∀ m o, obsOf s [] m = some o → RepOb C w0 (ρ0 ++ ext) β w ok m o := fun ok ho m o hmo => by
    obtain ⟨q, g1, g2⟩ := obsOf_some hmo
    exact (h.ob m q o g1 (subPC_ok g2 rfl)).keep ho (fun _ _ => rfl) fun _ _ _ => rfl
  have habs : ∀ m, Absent s (look tm.ob) m → slFree m s.sl = true ∧ obFree m s.ob = true := by
    rintro m ⟨h1, e, c, v, h2⟩
    obtain ⟨a1, a2, g1, _⟩ := hob' m _ h2
    rcases now_ok g1 with ⟨_, _, _, g2, g3, _⟩ | ⟨_, _, _, _, g2, g3, _⟩ | ⟨_, _, _, _, _, _, g2, g3, _⟩ | ⟨_, _, g2, g3, _, g4, g5, _⟩
    · simp at g2
    · rw [h1] at g3; simp at g3
    · simp at g2
    · exact ⟨g4, g5⟩
  -- the same blocks
  have hblk : ∀ n o b, look tm.ob n = some o → Blk (β.tm s (look tm.ob)) n o b → ∃ o', look s.ob n = some ([], o') ∧ o'.mut = true ∧ Blk β n o' b := by
    intro n o b hn hb
    obtain ⟨a1, a2, g1, _⟩ := hob' n o hn
    rcases now_ok g1 with ⟨t, p, v, rfl, g3, _⟩ | ⟨e, p, c, ver, rfl, g3, _⟩ | ⟨e, f, p, c, ver, rv, rfl, g3, _⟩ | ⟨e, p, rfl, g3, _⟩
    · exact ⟨_, g3, rfl, hb⟩
    · refine ⟨_, g3, rfl, ?_⟩
      rw [Blk_arr] at hb ⊢
      simp only [Be.tm, g3] at hb
      exact hb
    · refine ⟨_, g3, rfl, ?_⟩
      rw [Blk_narr] at hb ⊢
      simp only [Be.tm, g3] at hb
      simpa using hb
    · rw [Blk_arr] at hb
      simp only [Be.tm, g3, Value.ownBlock] at hb
      simp at hb
  have hM : ∀ b, Mut C (ρ0 ++ pad vs.length (evs C.G (ρ0 ++ ext) vs)) (ofT s0 tm vs.length) (β.tm s (look tm.ob)) b → Mut C (ρ0 ++ ext) s β b := by
    rintro b ⟨n, q, o, h1, _, _, h4⟩
    obtain ⟨rfl, h5⟩ := hT n q o h1
    obtain ⟨o', g1, g2, g3⟩ := hblk n o b h5 h4
    exact ⟨n, [], o', g1, rfl, g2, g3⟩
  have ho : ∀ b, okk C w0 ok0 (ρ0 ++ ext) s β w b → okk C w0 ok0 (ρ0 ++ pad vs.length (evs C.G (ρ0 ++ ext) vs)) (ofT s0 tm vs.length) (β.tm s (look tm.ob)) w b := by
    rintro b (hk | ⟨g1, g2, g3⟩)
    · exact .inl hk
    · exact .inr ⟨g1, g2, fun hm => g3 (hM b hm)⟩
  refine ⟨h.below, by rw [h.size, hnt]; rfl, h.dfr, ?_, ?_, ?_, ?_⟩
  · intro t p ht
    obtain ⟨v, a1, a2, g1, g2, g3⟩ := hsl' t p ht
    exact matchV_sv H (hobR _ ho) g2 (g3.trans p1) (fun m hm => slFree_look (habs m hm).1 g1) ((h.sl t v g1).keep ho fun _ _ => rfl)
  · intro n q o hn _
    obtain ⟨rfl, h5⟩ := hT n q o hn
    obtain ⟨a1, a2, g1, g2⟩ := hob' n o h5
    rcases now_ok g1 with ⟨t, p, v, rfl, g3, g4, g5⟩ | ⟨e, p, c, ver, rfl, g3, g4⟩ | ⟨e, f, p, c, ver, rv, rfl, g3, g4⟩ | ⟨e, p, rfl, g3, g4, g5, g6, g7⟩
    · obtain ⟨k1, k2, cs, E, k3, k4⟩ := h.ob n _ _ g3 rfl
      have hna : ¬ Absent s (look tm.ob) n := fun ha => by rw [ha.1] at g3; simp at g3
      refine ⟨by rw [Be.tm_ty hna]; exact k1, k2, cs, E, k3, ?_⟩
      exact matchV_sc H (hobR _ ho) g5 g2 (fun m hm => by have := (obFree_look (habs m hm).2 g3).2; exact this) g4 (k4.keep ho fun _ _ => rfl)
    · obtain ⟨k1, k2, L, cs, k3, k4, k5, k6⟩ := h.ob n _ _ g3 rfl
      have hna : ¬ Absent s (look tm.ob) n := fun ha => by rw [ha.1] at g3; simp at g3
      refine ⟨by rw [Be.tm_ty hna]; exact k1, k2, L, cs, by rw [matchE_ev g4 g2]; exact k3, k4.keep ho fun _ _ => rfl, k5, ?_⟩
      have : (β.tm s (look tm.ob)).vl n 0 = β.vl n ver := by simp only [Be.tm, g3]
      rw [this]
      exact k6
    · obtain ⟨k1, k2, L, cs, rows, k3, k4, k5, k6, k7, k8, k9, k10⟩ := h.ob n _ _ g3 rfl
      have hna : ¬ Absent s (look tm.ob) n := fun ha => by rw [ha.1] at g3; simp at g3
      have e0 : (β.tm s (look tm.ob)).vl n 0 = β.vl n ver := by simp only [Be.tm, g3, if_true]
      have e1 : (β.tm s (look tm.ob)).vl n 1 = β.vl n rv := by simp [Be.tm, g3]
      refine ⟨by rw [Be.tm_ty hna]; exact k1, k2, L, cs, rows, by rw [matchE_ev g4 g2]; exact k3, k4, by rw [e0]; exact k5, by rw [e1]; exact k6, k7, ?_, k9, by rw [e0]; exact k10⟩
      intro j d r hj hr
      exact (k8 j d r hj hr).keep ho (fun _ _ => rfl) fun _ _ => rfl
    · refine ⟨by simp only [Be.tm, g3, h5], g4, [], [], by rw [matchE_ev g7 g2]; rfl, .nil, by simp, ?_⟩
      have : (β.tm s (look tm.ob)).vl n 0 = .slice none 0 0 := by simp only [Be.tm, g3]
      rw [this]
      exact World.ownsRow_nil ..
  · intro n m q q' o o' b h1 h2 _ _ _ _ h7 h8
    obtain ⟨rfl, h5⟩ := hT n q o h1
    obtain ⟨rfl, h6⟩ := hT m q' o' h2
    obtain ⟨o1, g1, g2, g3⟩ := hblk n o b h5 h7
    obtain ⟨o2, k1, k2, k3⟩ := hblk m o' b h6 h8
    exact h.sep n m [] [] o1 o2 b g1 k1 rfl rfl g2 k2 g3 k3
  · intro n q o b h1 _ _ h7
    obtain ⟨rfl, h5⟩ := hT n q o h1
    obtain ⟨o1, g1, g2, g3⟩ := hblk n o b h5 h7
    exact h.rng n [] o1 b g1 rfl g2 g3
end
end Sy

/- Bodies of functions: what the text says is what the code does. -/
namespace Sy
open Go Go.RowKit

theorem iter_out {f : List D → Option Out} {ts : List Nat} (hf : ∀ vs o, f vs = some o → o.1 ∉ ts) : ∀ {n : Nat} {vs : List D} {o : Out}, iter f n vs = some o → o.1 ∉ ts
  | 0, _, _, h => by simp [iter] at h
  | n + 1, vs, o, h => by
    simp only [iter] at h
    cases hv : f vs with
    | none => simp [hv] at h
    | some o' =>
      simp only [hv, Option.bind_some] at h
      split at h
      · exact iter_out hf h
      · simp only [Option.some.injEq] at h; subst h; exact hf _ _ hv
theorem noOut_ok {G : Nat → D} {Γ : Fns} {N : Nat} {ts : List Nat} : ∀ {il : IL} {ρ : List D} {o : Out}, noOut ts il = true → run G Γ N il ρ = some o → o.1 ∉ ts
  | .chk c k, ρ, o, h, hr => by
    simp only [noOut] at h
    simp only [run] at hr
    split at hr
    · exact noOut_ok h hr
    · simp at hr
  | .lete e k, ρ, o, h, hr => noOut_ok (il := k) (by simpa only [noOut] using h) (by simpa only [run] using hr)
  | .call pc m f args k, ρ, o, h, hr => by
    simp only [noOut] at h
    simp only [run] at hr
    split at hr
    · cases hc : Γ f (evs G ρ args) with
      | none => simp [hc] at hr
      | some rs => simp only [hc, Option.bind_some] at hr; exact noOut_ok h hr
    · exact noOut_ok h hr
  | .callv pc m fe args k, ρ, o, h, hr => by
    simp only [noOut] at h
    simp only [run] at hr
    split at hr
    · cases hc : callD Γ (fe.ev G ρ) (evs G ρ args) with
      | none => simp [hc] at hr
      | some rs => simp only [hc, Option.bind_some] at hr; exact noOut_ok h hr
    · exact noOut_ok h hr
  | .ite c a b, ρ, o, h, hr => by
    simp only [noOut, Bool.and_eq_true] at h
    simp only [run] at hr
    split at hr
    · exact noOut_ok h.1 hr
    · exact noOut_ok h.2 hr
  | .out t vs, ρ, o, h, hr => by
    simp only [noOut, Bool.not_eq_true'] at h
    simp only [run, Option.some.injEq] at hr
    subst hr
    simpa using h
  | .bindc a t m k, ρ, o, h, hr => by
    simp only [noOut, Bool.and_eq_true] at h
    simp only [run] at hr
    cases ha : run G Γ N a ρ with
    | none => simp [ha] at hr
    | some o' =>
      simp only [ha, Option.bind_some] at hr
      split at hr
      · exact noOut_ok h.2 hr
      · simp only [Option.some.injEq] at hr; subst hr; exact noOut_ok h.1 ha
  | .loop es b, ρ, o, h, hr => by
    simp only [noOut] at h
    simp only [run] at hr
    exact iter_out (fun vs o ho => noOut_ok h ho) hr
  | .both a b, ρ, o, h, hr => by
    simp only [noOut, Bool.and_eq_true] at h
    simp only [run, bothO_some] at hr
    exact noOut_ok h.1 hr.1

def exitOf (t : Nat) : Option Exit := if t = 1 then some .normal else if 3 ≤ t then some (.exit (t - 3)) else none

section
variable (C : Ctx) (Γ : Fns) (N : Nat) (w0 : World) (ok0 : Nat → Prop) (NT : Nat) (fn : Sy.Fn)
/-- What goes on behind a piece of code. -/
def KOK (ρ0 : List D) (κ : Nat → S → Option IL) (out : Out) (Q : Exit → Act → World → Prop) : Prop :=
  ∀ t s' il' ρ' β' a' w', κ t s' = some il' → run C.G Γ N il' ρ' = some out → SimB C w0 ok0 ρ' s' β' a' w' → ρ'.length = s'.n → s'.nt = NT → (∃ ext, ρ' = ρ0 ++ ext) → ∀ e, exitOf t = some e → Q e a' w'
def ROK (out : Out) (Q : Exit → Act → World → Prop) : Prop :=
  ∀ s' il' ρ' β' a' w', retIL C fn s' = some il' → run C.G Γ N il' ρ' = some out → SimB C w0 ok0 ρ' s' β' a' w' → ρ'.length = s'.n → Q .ret a' w'
end
section
variable {C : Ctx} {Γ : Fns} {N : Nat} {w0 : World} {ok0 : Nat → Prop} {NT : Nat} {fn : Sy.Fn}
theorem KOK.ext {ρ0 ext : List D} {κ : Nat → S → Option IL} {out : Out} {Q : Exit → Act → World → Prop} (h : KOK C Γ N w0 ok0 NT ρ0 κ out Q) : KOK C Γ N w0 ok0 NT (ρ0 ++ ext) κ out Q :=
  fun t s' il' ρ' β' a' w' h1 h2 h3 h4 h5 ⟨e, he⟩ => h t s' il' ρ' β' a' w' h1 h2 h3 h4 h5 ⟨ext ++ e, by rw [he, List.append_assoc]⟩
theorem regSteps_nt {draw : Bool} {ops : List Oper} {hidOf : List Step → Nat → List Nat} : ∀ {rest : List Oper} {acc l : List Step} {s s' : S}, regSteps C draw ops hidOf rest acc s = some (l, s') → s'.nt = s.nt
  | [], acc, l, s, s', hr => by
    simp only [regSteps, Option.some.injEq, Prod.mk.injEq] at hr
    rw [hr.2]
  | o :: rest, acc, l, s, s', hr => by
    simp only [regSteps] at hr
    split at hr
    · simp at hr
    · split at hr
      · exact (regSteps_nt hr).trans rfl
      · simp at hr
    · split at hr
      · simp at hr
      · split at hr
        · simp at hr
        · rename_i hst
          rw [regSteps_nt hr, (stepS_some hst).1]
          rfl
theorem region_nt {draw : Bool} {ops : List Oper} {l : List Step} {s s' : S} (hr : region C draw ops s = some (l, s')) : s'.nt = s.nt := by
  unfold region at hr
  split at hr
  · simp only at hr
    split at hr
    · rename_i h1
      split at hr
      · simp only [Option.some.injEq, Prod.mk.injEq] at hr
        rw [← hr.2]
        exact regSteps_nt h1
      · simp at hr
    · simp at hr
  · exact regSteps_nt hr
end
end Sy

/- Bodies of functions, whole. -/
namespace Sy
open Go Go.RowKit

section
variable {C : Ctx} {Γ : Fns} {N : Nat} {w0 : World} {ok0 : Nat → Prop} {NT : Nat} {fn : Sy.Fn}

theorem tagOf_inj {key t t' : Nat} (h : tagOf key t = tagOf key t') : t = t' := by unfold tagOf at h; omega
theorem arms_run {s : S} {key : Nat} {ts : List Nat} {κ : Nat → S → Option IL} {ρ : List D} {fin : Out} : ∀ {ex : List (Nat × Tm × Nat)} {il il' : IL}, armsT s key ts κ ex il = some il' → (∀ x ∈ ex, tagOf key x.1 ∈ ts) → run C.G Γ N il' ρ = some fin →
    ∃ o, run C.G Γ N il ρ = some o ∧ ((∃ t tm m k, look ex t = some (tm, m) ∧ o.1 = tagOf key t ∧ κ t (ofT s tm m) = some k ∧ run C.G Γ N k (ρ ++ pad m o.2) = some fin) ∨ ((∀ x ∈ ex, o.1 ≠ tagOf key x.1) ∧ fin = o))
  | [], il, il', h, _, hr => by
    simp only [armsT, Option.some.injEq] at h
    subst h
    exact ⟨fin, hr, .inr ⟨by simp, rfl⟩⟩
  | (t, tm, m) :: l, il, il', h, hts, hr => by
    simp only [armsT] at h
    cases hk : κ t (ofT s tm m) with
    | none => simp [hk] at h
    | some k =>
      simp only [hk] at h
      split at h
      · rename_i hno
        obtain ⟨o1, h1, h2⟩ := arms_run h (fun x hx => hts x (List.mem_cons_of_mem _ hx)) hr
        simp only [run] at h1
        cases ho : run C.G Γ N il ρ with
        | none => simp [ho] at h1
        | some o =>
          simp only [ho, Option.bind_some] at h1
          refine ⟨o, rfl, ?_⟩
          split at h1
          · rename_i hτ
            have hnot := noOut_ok hno h1
            left
            refine ⟨t, tm, m, k, by simp [look], hτ, hk, ?_⟩
            rcases h2 with ⟨t', tm', m', k', g1, g2, _⟩ | ⟨_, rfl⟩
            · exfalso
              have := hts (t', tm', m') (List.mem_cons_of_mem _ (look_mem g1))
              rw [← g2] at this
              exact hnot this
            · exact h1
          · rename_i hτ
            simp only [Option.some.injEq] at h1
            subst h1
            rcases h2 with ⟨t', tm', m', k', g1, g2, g3, g4⟩ | ⟨g1, g2⟩
            · left
              refine ⟨t', tm', m', k', ?_, g2, g3, g4⟩
              simp only [look]
              rw [if_neg]
              · exact g1
              · rintro rfl; exact hτ g2
            · right
              refine ⟨fun x hx => ?_, g2⟩
              rcases List.mem_cons.1 hx with rfl | hx
              · exact hτ
              · exact g1 x hx
      · simp at h

theorem join_ok (H : COK C) {s : S} {key : Nat} {κ : Nat → S → Option IL} {ρ : List D} {fin : Out} {ex : List (Nat × Tm × Nat)} {il il' : IL} {Q : Exit → Act → World → Prop} (h : armsT s key (ex.map fun x => tagOf key x.1) κ ex il = some il') (hr : run C.G Γ N il' ρ = some fin)
    (hn : ρ.length = s.n) (hnt : s.nt = NT) (hK : KOK C Γ N w0 ok0 NT ρ κ fin Q) (hR : ROK C Γ N w0 ok0 fn fin Q) :
    ∃ o, run C.G Γ N il ρ = some o ∧ KOK C Γ N w0 ok0 NT ρ (fun t s' => outT C key s.n s' ex t) o Q ∧ ROK C Γ N w0 ok0 fn o Q := by
  obtain ⟨o, h1, h2⟩ := arms_run h (fun x hx => List.mem_map.2 ⟨x, hx, rfl⟩) hr
  refine ⟨o, h1, ?_, ?_⟩
  · intro t s' ilo ρ' β' a' w' k1 k2 k3 k4 k5 ⟨ext, k6⟩ e he
    unfold outT at k1
    cases hl : look ex t with
    | none => simp [hl] at k1
    | some x =>
      obtain ⟨tm, m⟩ := x
      simp only [hl] at k1
      cases hm : matchT C s.n s' tm with
      | none => simp [hm] at k1
      | some vs =>
        simp only [hm] at k1
        split at k1
        · rename_i hvm
          simp only [Option.some.injEq] at k1
          subst k1
          simp only [run, Option.some.injEq] at k2
          subst k2
          subst k6
          rcases h2 with ⟨t', tm', m', k, g1, g2, g3, g4⟩ | ⟨g1, _⟩
          · have := tagOf_inj g2
            subst this
            rw [hl] at g1
            simp only [Option.some.injEq, Prod.mk.injEq] at g1
            obtain ⟨rfl, rfl⟩ := g1
            rw [← hn] at hm
            have hsim := matchT_ok H k3 hm (s0 := s) (by rw [k5, hnt])
            rw [hvm] at hsim
            refine hK t _ k _ _ a' w' g3 g4 hsim ?_ hnt ⟨_, rfl⟩ e he
            rw [List.length_append, pad_len, hn]; rfl
          · exact absurd rfl (g1 _ (look_mem hl))
        · simp at k1
  · intro s' ilo ρ' β' a' w' k1 k2 k3 k4
    have ho : o.1 = 2 := by
      unfold retIL at k1
      split at k1
      · split at k1
        · simp only [Option.some.injEq] at k1
          subst k1
          simp only [run, Option.some.injEq] at k2
          rw [← k2]
        · simp at k1
      · simp at k1
    rcases h2 with ⟨t', tm', m', k, g1, g2, g3, g4⟩ | ⟨_, g2⟩
    · rw [ho] at g2
      unfold tagOf at g2
      omega
    · exact hR s' ilo ρ' β' a' w' k1 (by rw [g2]; exact k2) k3 k4
end
end Sy

/- Bodies of functions: the proof by structure. -/
namespace Sy
open Go Go.RowKit

section
variable {C : Ctx} {Γ : Fns} {N : Nat} {w0 : World} {ok0 : Nat → Prop} {NT : Nat} {fn : Sy.Fn}

theorem decomp_ok (H : COK C) (HG : GOK C w0 ok0) (Hok : ∀ b, ok0 b → b < w0.heap.size) (HS : ∀ f, Sound C f (Γ f)) : ∀ (c : Code) {s : S} {κ : Nat → S → Option IL} {il : IL} {ρ : List D} {β : Be} {a : Act} {w : World} {out : Out} {Q : Exit → Act → World → Prop},
    decomp C fn c s κ = some il → run C.G Γ N il ρ = some out → SimB C w0 ok0 ρ s β a w → ρ.length = s.n → s.nt = NT → KOK C Γ N w0 ok0 NT ρ κ out Q → ROK C Γ N w0 ok0 fn out Q → c.wp C.P Q a w
  | .skip, s, κ, il, ρ, β, a, w, out, Q, h, hr, hs, hn, hnt, hK, hR => by
    simp only [decomp] at h
    exact wp_skip (hK 1 s il ρ β a w h hr hs hn hnt ⟨[], by simp⟩ _ rfl)
  | .region id ops draw, s, κ, il, ρ, β, a, w, out, Q, h, hr, hs, hn, hnt, hK, hR => by
    simp only [decomp] at h
    cases hreg : region C draw ops.toList s with
    | none => simp [hreg] at h
    | some y =>
      obtain ⟨l, s'⟩ := y
      simp only [hreg] at h
      cases hk : κ 1 s' with
      | none => simp [hk] at h
      | some k =>
        simp only [hk, Option.map_some, Option.some.injEq] at h
        subst h
        exact region_ok H HG Hok HS hreg hs hn hr fun ρ' β' a' w' hp h1 h2 h3 => hK 1 s' k ρ' β' a' w' hk h3 h1 h2 (by rw [region_nt hreg, hnt]) hp _ rfl
  | .seq x y, s, κ, il, ρ, β, a, w, out, Q, h, hr, hs, hn, hnt, hK, hR => by
    simp only [decomp] at h
    refine wp_seq ?_
    -- behind the first part
    have next : ∀ {ρ' out'}, KOK C Γ N w0 ok0 NT ρ' κ out' Q → ROK C Γ N w0 ok0 fn out' Q → KOK C Γ N w0 ok0 NT ρ' (fun t s' => if t = 1 then decomp C fn y s' κ else κ t s') out' (Exit.then (y.wp C.P Q) Q) := by
      intro ρ' out' hK' hR' t s' il' ρ'' β' a' w' h1 h2 h3 h4 h5 ⟨ext, h6⟩ e he
      simp only at h1
      split at h1
      · rename_i ht
        subst ht
        simp only [exitOf, if_true, Option.some.injEq] at he
        subst he
        subst h6
        exact decomp_ok H HG Hok HS y h1 h2 h3 h4 h5 hK'.ext hR'
      · rename_i ht
        have := hK' t s' il' ρ'' β' a' w' h1 h2 h3 h4 h5 ⟨ext, h6⟩ e he
        simp only [exitOf, if_neg ht] at he
        split at he
        · simp only [Option.some.injEq] at he
          subst he
          exact this
        · simp at he
    have nextR : ∀ {out'}, ROK C Γ N w0 ok0 fn out' Q → ROK C Γ N w0 ok0 fn out' (Exit.then (y.wp C.P Q) Q) := fun hR' => hR'
    split at h
    · exact decomp_ok H HG Hok HS x h hr hs hn hnt (next hK hR) (nextR hR)
    · rename_i key ex _
      cases hx : decomp C fn x s (fun t s' => outT C key s.n s' ex t) with
      | none => simp [hx] at h
      | some ilx =>
        simp only [hx] at h
        obtain ⟨o, h1, h2, h3⟩ := join_ok H h hr hn hnt (next hK hR) (nextR hR)
        exact decomp_ok H HG Hok HS x hx h1 hs hn hnt h2 h3
  | .cond c x y, s, κ, il, ρ, β, a, w, out, Q, h, hr, hs, hn, hnt, hK, hR => by
    simp only [decomp] at h
    split at h
    · rename_i v hc
      obtain ⟨b, h1, h2⟩ := RepV.bool (opv_ok HG Hok hs (pc := []) (more := []) rfl rfl hc)
      simp only [Ex.ev, D.bool.injEq] at h1
      subst h1
      refine wp_cond h2 ?_
      cases v with
      | true => exact decomp_ok H HG Hok HS x (by simpa using h) hr hs hn hnt hK hR
      | false => exact decomp_ok H HG Hok HS y (by simpa using h) hr hs hn hnt hK hR
    · rename_i e _ hc
      obtain ⟨b, h1, h2⟩ := RepV.bool (opv_ok HG Hok hs (pc := []) (more := []) rfl rfl hc)
      split at h
      · rename_i ix iy hx hy
        simp only [Option.some.injEq] at h
        subst h
        simp only [run, h1, asB_bool] at hr
        refine wp_cond h2 ?_
        cases b with
        | true => exact decomp_ok H HG Hok HS x hx (by simpa using hr) hs hn hnt hK hR
        | false => exact decomp_ok H HG Hok HS y hy (by simpa using hr) hs hn hnt hK hR
      · simp at h
    · rename_i e hc
      obtain ⟨b, h1, h2⟩ := opv_ok HG Hok hs (pc := []) (more := []) rfl rfl hc
      split at h
      · rename_i ix iy hx hy
        simp only [Option.some.injEq] at h
        subst h
        simp only [run] at hr
        refine wp_cond h1 ?_
        cases b with
        | true =>
          rw [if_pos (by simp [Ex.ev, U1.ev, U2.ev, h2 rfl, D.asI, D.asB])] at hr
          exact decomp_ok H HG Hok HS x hx (bothO_some.1 hr).1 hs hn hnt hK hR
        | false =>
          refine decomp_ok H HG Hok HS y hy ?_ hs hn hnt hK hR
          split at hr
          · exact (bothO_some.1 hr).2
          · exact hr
      · simp at h
    · simp at h
  | .block id b, s, κ, il, ρ, β, a, w, out, Q, h, hr, hs, hn, hnt, hK, hR => by
    simp only [decomp] at h
    refine wp_block (decomp_ok H HG Hok HS b h hr hs hn hnt ?_ fun s' il' ρ' β' a' w' k1 k2 k3 k4 => hR s' il' ρ' β' a' w' k1 k2 k3 k4)
    intro t s' il' ρ'' β' a' w' h1 h2 h3 h4 h5 h6 e he
    simp only at h1
    split at h1
    · rename_i ht
      subst ht
      have := hK 1 s' il' ρ'' β' a' w' h1 h2 h3 h4 h5 h6 .normal rfl
      simp only [exitOf] at he
      rw [if_neg (by omega), if_pos (by omega)] at he
      simp only [Option.some.injEq] at he
      subst he
      simp only [Exit.inBlock]
      rw [if_pos (by omega)]
      exact this
    · rename_i ht
      have := hK t s' il' ρ'' β' a' w' h1 h2 h3 h4 h5 h6 e he
      simp only [exitOf] at he
      split at he
      · simp only [Option.some.injEq] at he
        subst he
        exact this
      · split at he
        · simp only [Option.some.injEq] at he
          subst he
          simp only [Exit.inBlock]
          rw [if_neg (by omega)]
          exact this
        · simp at he
  | .scope b, s, κ, il, ρ, β, a, w, out, Q, h, hr, hs, hn, hnt, hK, hR => by
    simp only [decomp] at h
    refine wp_scope_straight (decomp_ok H HG Hok HS b h hr hs hn hnt ?_ fun s' il' ρ' β' a' w' k1 k2 k3 k4 => hR s' il' ρ' β' a' w' k1 k2 k3 k4)
    intro t s' il' ρ'' β' a' w' h1 h2 h3 h4 h5 h6 e he
    have := hK t s' il' ρ'' β' a' w' h1 h2 h3 h4 h5 h6 e he
    simp only [exitOf] at he
    split at he
    · simp only [Option.some.injEq] at he
      subst he
      exact this
    · split at he
      · simp only [Option.some.injEq] at he
        subst he
        exact this
      · simp at he
  | .exit id, s, κ, il, ρ, β, a, w, out, Q, h, hr, hs, hn, hnt, hK, hR => by
    simp only [decomp] at h
    refine wp_exit (hK (3 + id) s il ρ β a w h hr hs hn hnt ⟨[], by simp⟩ _ ?_)
    simp only [exitOf]
    rw [if_neg (by omega), if_pos (by omega)]
    congr 2
    omega
  | .ret, s, κ, il, ρ, β, a, w, out, Q, h, hr, hs, hn, hnt, hK, hR => by
    simp only [decomp] at h
    exact wp_ret (hR s il ρ β a w h hr hs hn)
  | .loop b, s, κ, il, ρ, β, a, w, out, Q, h, hr, hs, hn, hnt, hK, hR => by
    simp only [decomp] at h
    split at h
    · rename_i key _ tm m ex _
      cases hm : matchT C s.n s tm with
      | none => simp [hm] at h
      | some vs =>
        simp only [hm] at h
        split at h
        · rename_i hvm
          split at h
          · rename_i ib hb
            obtain ⟨o, h1, h2, h3⟩ := join_ok H h hr hn hnt hK hR
            simp only [run] at h1
            rw [hvm] at h1
            have key2 : ∀ n vs' β a w, iter (fun vs' => run C.G Γ N ib (ρ ++ pad m vs')) n vs' = some o → SimB C w0 ok0 (ρ ++ pad m vs') (ofT s tm m) β a w → Code.rounds C.P b Q n a w := by
              intro n
              induction n with
              | zero => intro vs' β a w hi; simp [iter] at hi
              | succ n ih =>
                intro vs' β a w hi hsim
                simp only [iter] at hi
                cases ho : run C.G Γ N ib (ρ ++ pad m vs') with
                | none => simp [ho] at hi
                | some o1 =>
                  simp only [ho, Option.bind_some] at hi
                  rw [rounds_succ]
                  refine decomp_ok H HG Hok HS b hb ho hsim ?_ hnt ?_ ?_
                  · rw [List.length_append, pad_len, hn]; rfl
                  · intro t s' il' ρ' β' a' w' k1 k2 k3 k4 k5 ⟨ext, k6⟩ e he
                    simp only at k1
                    split at k1
                    · rename_i ht
                      subst ht
                      cases hm' : matchT C s.n s' tm with
                      | none => simp [hm'] at k1
                      | some ws =>
                        simp only [hm'] at k1
                        split at k1
                        · rename_i hwm
                          simp only [Option.some.injEq] at k1
                          subst k1
                          simp only [run, Option.some.injEq] at k2
                          subst k2
                          simp only [if_true] at hi
                          subst k6
                          rw [List.append_assoc] at k3 hi
                          rw [← hn] at hm'
                          have hsim' := matchT_ok H k3 hm' (s0 := s) (by rw [k5, hnt])
                          rw [hwm] at hsim'
                          simp only [exitOf, if_true, Option.some.injEq] at he
                          subst he
                          exact ih _ _ a' w' hi hsim'
                        · simp at k1
                    · rename_i ht
                      have hτ : o1.1 ≠ 0 := by
                        unfold outT at k1
                        split at k1
                        · split at k1
                          · split at k1
                            · simp only [Option.some.injEq] at k1
                              subst k1
                              simp only [run, Option.some.injEq] at k2
                              rw [← k2]
                              unfold tagOf
                              simp only
                              omega
                            · simp at k1
                          · simp at k1
                        · simp at k1
                      rw [if_neg hτ] at hi
                      simp only [Option.some.injEq] at hi
                      subst hi
                      have := h2 t s' il' ρ' β' a' w' k1 k2 k3 k4 k5 ⟨pad m vs' ++ ext, by rw [k6, List.append_assoc]⟩ e he
                      simp only [exitOf, if_neg ht] at he
                      split at he
                      · simp only [Option.some.injEq] at he
                        subst he
                        exact this
                      · simp at he
                  · intro s' il' ρ' β' a' w' k1 k2 k3 k4
                    have hτ : o1.1 = 2 := by
                      unfold retIL at k1
                      split at k1
                      · split at k1
                        · simp only [Option.some.injEq] at k1
                          subst k1
                          simp only [run, Option.some.injEq] at k2
                          rw [← k2]
                        · simp at k1
                      · simp at k1
                    rw [if_neg (by omega)] at hi
                    simp only [Option.some.injEq] at hi
                    subst hi
                    exact h3 s' il' ρ' β' a' w' k1 k2 k3 k4
            have h0 := matchT_ok H (ρ0 := ρ) (ext := []) (s := s) (β := β) (a := a) (w := w) (by simpa using hs) (by rw [hn]; exact hm) (s0 := s) rfl
            rw [hvm, List.append_nil] at h0
            exact wp_loop_rounds N (key2 N _ _ a w h1 h0)
          · simp at h
        · simp at h
    · simp at h
  | .label _, s, κ, il, ρ, β, a, w, out, Q, h, hr, hs, hn, hnt, hK, hR => by simp [decomp] at h
  | .goto _, s, κ, il, ρ, β, a, w, out, Q, h, hr, hs, hn, hnt, hK, hR => by simp [decomp] at h
  | .rangeFunc .., s, κ, il, ρ, β, a, w, out, Q, h, hr, hs, hn, hnt, hK, hR => by simp [decomp] at h
end
end Sy

/- A function, whole: what its text says is what the call does. -/
namespace Sy
open Go Go.RowKit

section
variable {C : Ctx} {w0 : World} {ok0 : Nat → Prop} {ρ : List D} {s : S} {β : Be} {a : Act} {w : World}

/-- How a result is read. -/
def rd (tmps : Array Value) : ResultVar → Sem Value
  | .tmp t => pure (tmps.getD t undef)
  | .cell a t => do loadVar t (← asAddr (tmps.getD a undef))

theorem loadAt_asAddr {P : Program} {t : Nat} {x y : Value} (h : (Instr.loadAt t x).run P w = .ok y w) : (do loadVar t (← asAddr x) : Sem Value).run P w = .ok y w := by
  cases x with
  | pointer a =>
    cases a with
    | none => simp [Instr.loadAt, Instr.sureAddr, stuck] at h
    | some a => simpa [Instr.loadAt, Instr.sureAddr, asAddr] using h
  | _ => simp [Instr.loadAt, Instr.sureAddr, stuck] at h

theorem obs_rep (h : SimB C w0 ok0 ρ s β a w) {m : Nat} {o : Ob} (ho : obsOf s [] m = some o) : RepOb C w0 ρ β w (okk C w0 ok0 ρ s β w) m o := by
  obtain ⟨q, h1, h2⟩ := obsOf_some ho
  exact h.ob m q o h1 (subPC_ok h2 rfl)

theorem RepL.wide {w : World} {ok ok' : Nat → Prop} {k : K} {l : List D} {cs : List Value} (h : RepL C w ok k l cs) (ho : ∀ b, ok b → ok' b) : RepL C w ok' k l cs := h.keep ho fun _ _ => rfl

theorem ownV_ok (h : SimB C w0 ok0 ρ s β a w) {k : K} {v : SV} {x : Value} {e : Ex} {ms : List Nat} (hv : ownV s k v = some (e, ms)) (hx : RepSV C ρ β w (okk C w0 ok0 ρ s β w) v x) :
    ∃ el l cs, k = .slice el ∧ e.ev C.G ρ = .list l ∧ w.ownsRow w0.heap.size el (C.tsz el) x l.length cs ∧ RepL C w (okk C w0 ok0 ρ s β w) (C.kd el) l cs ∧ l.length ≤ maxN ∧
      (∀ b, x.ownBlock = some b → ∃ m ∈ ms, ∃ q o, look s.ob m = some (q, o) ∧ pcOK C.G ρ q = true ∧ o.mut = true ∧ Blk β m o b) := by
  unfold ownV at hv
  split at hv
  · rename_i el m ver e'
    split at hv
    · rename_i q e'' c ver' hl
      split at hv
      · rename_i hc
        obtain ⟨rfl, rfl, rfl, hq⟩ := hc
        simp only [Option.some.injEq, Prod.mk.injEq] at hv
        obtain ⟨rfl, rfl⟩ := hv
        obtain ⟨rfl, _⟩ := hx
        have hqe : q = [] := by cases q <;> simp_all
        subst hqe
        obtain ⟨h1, h2, l, cs, h3, h4, h5, h6⟩ := h.ob m [] _ hl rfl
        exact ⟨el, l, cs, rfl, h3, h6, h4, h5, fun b hb => ⟨m, by simp, [], _, hl, rfl, rfl, Blk_arr.2 hb⟩⟩
      · simp at hv
    · simp at hv
  · rename_i el e'
    split at hv
    · rename_i he
      subst he
      simp only [Option.some.injEq, Prod.mk.injEq] at hv
      obtain ⟨rfl, rfl⟩ := hv
      have hx' : x = .slice none 0 0 := hx
      subst hx'
      exact ⟨el, [], [], rfl, rfl, World.ownsRow_nil _ _ _ _, .nil, by simp, fun b hb => by simp [Value.ownBlock] at hb⟩
    · simp at hv
  · simp at hv

theorem nodupB_append : ∀ {l m : List Nat}, nodupB (l ++ m) = true → nodupB m = true ∧ ∀ x ∈ l, x ∉ m
  | [], m, h => ⟨h, by simp⟩
  | x :: l, m, h => by
    simp only [List.cons_append, nodupB, Bool.and_eq_true, Bool.not_eq_true', List.contains_eq_mem, decide_eq_false_iff_not, List.mem_append, not_or] at h
    obtain ⟨h1, h2⟩ := nodupB_append h.2
    refine ⟨h1, fun y hy => ?_⟩
    rcases List.mem_cons.1 hy with rfl | hy
    · exact h.1.2
    · exact h2 y hy

theorem resX_ok (H : COK C) (h : SimB C w0 ok0 ρ s β a w) : ∀ {rs : List ResultVar} {ks : List K} {own : List Bool} {es : List Ex} {ns : List Nat}, resX C s rs ks own = some (es, ns) →
    ∃ A O : List Nat, (∀ m ∈ A, m ∈ ns) ∧ (∀ m ∈ O, m ∈ ns) ∧ (nodupB ns = true → ∀ m ∈ A, m ∉ O) ∧ (own.all (· == false) = true → O = []) ∧
      ∀ okr : Nat → Prop, (∀ b, ok2 β (okk C w0 ok0 ρ s β w) (obsOf s []) A b → okr b) → (∀ m ∈ O, ∀ q o b, look s.ob m = some (q, o) → pcOK C.G ρ q = true → o.mut = true → Blk β m o b → ¬ okr b) →
        ∃ vs, (rs.mapM (rd a.tmps)).run C.P w = .ok vs w ∧ RepRs C w okr w0.heap.size ks own (evs C.G ρ es) vs
  | [], [], own, es, ns, hr => by
    simp only [resX, Option.some.injEq, Prod.mk.injEq] at hr
    obtain ⟨rfl, rfl⟩ := hr
    exact ⟨[], [], by simp, by simp, by simp, by simp, fun okr _ _ => ⟨[], by simp, .nil⟩⟩
  | [], _ :: _, own, es, ns, hr => by simp [resX] at hr
  | _ :: _, [], own, es, ns, hr => by simp [resX] at hr
  | r :: rs, k :: ks, own, es, ns, hr => by
    simp only [resX] at hr
    split at hr
    · rename_i v es' ns' hv hrs
      obtain ⟨A, O, hA, hO, hAO, hall, hres⟩ := resX_ok H h hrs
      -- the value
      have hx : ∃ x, (rd a.tmps r).run C.P w = .ok x w ∧ RepSV C ρ β w (okk C w0 ok0 ρ s β w) v x := by
        cases r with
        | tmp t =>
          simp only at hv
          exact ⟨_, by simp [rd], h.sl t v hv⟩
        | cell c ty =>
          simp only at hv
          split at hv
          · rename_i u hu
            obtain ⟨y, g1, g2⟩ := loadV_ok H (fun m o ho => obs_rep h ho) hv (h.sl c u hu)
            exact ⟨y, loadAt_asAddr g1, g2⟩
          · simp at hv
      obtain ⟨x, hx1, hx2⟩ := hx
      have htail : own.all (· == false) = true → own.tail.all (· == false) = true := by
        cases own with
        | nil => simp
        | cons b l => simp
      split at hr
      · rename_i hown
        split at hr
        · rename_i e m hov
          split at hr
          · rename_i hdis
            simp only [Option.some.injEq, Prod.mk.injEq] at hr
            obtain ⟨rfl, rfl⟩ := hr
            obtain ⟨el, l, cs, rfl, g1, g2, g3, g4, g5⟩ := ownV_ok h hov hx2
            refine ⟨A, m ++ O, fun y hy => List.mem_append_right _ (hA y hy), ?_, ?_, ?_, ?_⟩
            · intro y hy
              rcases List.mem_append.1 hy with hy | hy
              · exact List.mem_append_left _ hy
              · exact List.mem_append_right _ (hO y hy)
            · intro hnd y hy hmem
              obtain ⟨k1, k2⟩ := nodupB_append hnd
              rcases List.mem_append.1 hmem with hm | hm
              · exact k2 y hm (hA y hy)
              · exact hAO k1 y hy hm
            · intro ha
              cases own with
              | nil => simp at hown
              | cons b l => simp at hown; subst hown; simp at ha
            · intro okr ho1 ho2
              obtain ⟨vs, k1, k2⟩ := hres okr ho1 (fun y hy => ho2 y (List.mem_append_right _ hy))
              refine ⟨x :: vs, ?_, ?_⟩
              · rw [List.mapM_cons]
                simp [hx1, k1]
              · show RepRs C w okr w0.heap.size (.slice el :: ks) own (e.ev C.G ρ :: evs C.G ρ es') (x :: vs)
                rw [g1]
                refine .own hown g2 (g3.wide fun b hb => ho1 b (.inl hb)) g4 ?_ k2
                intro b hb
                obtain ⟨y, hy, q, o, p1, p2, p3, p4⟩ := g5 b hb
                exact ho2 y (List.mem_append_left _ hy) q o b p1 p2 p3 p4
          · simp at hr
        · simp at hr
      · rename_i hown
        split at hr
        · rename_i e m htd
          simp only [Option.some.injEq, Prod.mk.injEq] at hr
          obtain ⟨rfl, rfl⟩ := hr
          have htd2 := (toD_all H (fun m o ho => obs_rep h ho) depth).2.1 k v e m x htd hx2
          refine ⟨m ++ A, O, ?_, fun y hy => List.mem_append_right _ (hO y hy), ?_, fun ha => hall (htail ha), ?_⟩
          · intro y hy
            rcases List.mem_append.1 hy with hy | hy
            · exact List.mem_append_left _ hy
            · exact List.mem_append_right _ (hA y hy)
          · intro hnd y hy hmem
            obtain ⟨k1, k2⟩ := nodupB_append hnd
            rcases List.mem_append.1 hy with hm | hm
            · exact k2 y hm (hO y hmem)
            · exact hAO k1 y hm hmem
          · intro okr ho1 ho2
            obtain ⟨vs, k1, k2⟩ := hres okr (fun b hb => ho1 b (ok2_mono (fun y hy => List.mem_append_right _ hy) b hb)) ho2
            refine ⟨x :: vs, ?_, ?_⟩
            · rw [List.mapM_cons]
              simp [hx1, k1]
            · exact .dat (by simpa using hown) (htd2.keep (fun b hb => ho1 b (ok2_mono (fun y hy => List.mem_append_left _ hy) b hb)) fun _ _ => rfl) k2
        · simp at hr
    · simp at hr

theorem results_run {fd : Func} {tmps : Array Value} {P : Program} {vs : List Value} (h : (fd.results.toList.mapM (rd tmps)).run P w = .ok vs w) : (results fd tmps).run P w = .ok (retOf vs) w := by
  have e : results fd tmps = (do let vs ← fd.results.mapM (rd tmps); pure (if h : vs.size = 1 then vs[0] else .tuple vs)) := by
    unfold results
    congr 1
  rw [e, Array.mapM_eq_mapM_toList]
  simp only [bind_map_left, Sem.run_bind, h, Result.andThen_ok, Sem.run_pure]
  congr 1
  unfold retOf
  split
  · rename_i hs
    match vs, hs with
    | [v], _ => rfl
  · rename_i hs
    match vs, hs with
    | [], _ => rfl
    | [v], hs => exact absurd rfl hs
    | _ :: _ :: _, _ => rfl

theorem ret_ok (H : COK C) {sg : Sig} {fd : Func} {hints : List (Nat × List (Nat × Tm × Nat))} (Hok : ∀ b, ok0 b → b < w0.heap.size) (h : SimB C w0 ok0 ρ s β a w) {Γ : Fns} {N : Nat} {il : IL} {out : Out} {rs : List D}
    (hr : retIL C { results := fd.results.toList, kinds := sg.results, own := sg.own, hints } s = some il) (ho : run C.G Γ N il ρ = some out) (hrs : outs out = some rs) : bodyPost C.P fd (Ends C sg ok0 w0 rs) .ret a w := by
  unfold retIL at hr
  split at hr
  · rename_i es ns hx
    split at hr
    · rename_i hc
      simp only [Option.some.injEq] at hr
      subst hr
      simp only [run, Option.some.injEq] at ho
      subst ho
      simp only [outs, if_true, Option.some.injEq] at hrs
      subst hrs
      simp only [Bool.and_eq_true, Bool.or_eq_true] at hc
      obtain ⟨A, O, hA, hO, hAO, hall, hres⟩ := resX_ok H h hx
      have hmut : ∀ m ∈ A, ∀ o, obsOf s [] m = some o → o.mut = true := by
        intro m hm o ho
        have := hc.2
        unfold mutAll at this
        rw [List.all_eq_true] at this
        have := this m (hA m hm)
        rw [ho] at this
        cases o <;> first | rfl | simp at this
      obtain ⟨vs, h1, h2⟩ := hres (ok2 β (okk C w0 ok0 ρ s β w) (obsOf s []) A) (fun b hb => hb) (by
        intro m hm q o b p1 p2 p3 p4 hb
        have hdis : ∀ m ∈ A, m ∉ O := by
          rcases hc.1 with h' | h'
          · rw [hall h']; simp
          · exact hAO h'
        rcases hb with hb | ⟨m', hm', o', q1, q2⟩
        · exact okk_mut h hb ⟨m, q, o, p1, p2, p3, p4⟩
        · obtain ⟨q', r1, r2⟩ := obsOf_some q1
          have := h.sep m m' q q' o o' b p1 r1 p2 (subPC_ok r2 rfl) p3 (hmut m' hm' o' q1) p4 q2
          subst this
          exact hdis m hm' hm)
      refine ⟨h.dfr, retOf vs, results_run h1, ok2 β (okk C w0 ok0 ρ s β w) (obsOf s []) A, vs, rfl, h.below, ?_, h2⟩
      intro b hb
      rcases hb with (hb | hb) | ⟨m', hm', o', q1, q2⟩
      · exact .inl hb.1
      · exact .inr ⟨hb.1, hb.2.1⟩
      · obtain ⟨q', r1, r2⟩ := obsOf_some q1
        exact .inr (h.rng m' q' o' b r1 (subPC_ok r2 rfl) (hmut m' hm' o' q1) q2)
    · simp at hr
  · simp at hr

/-! ### Entering -/
theorem entry_run {G : Nat → D} {Γ : Fns} {N nfree total : Nat} {ρ : List D} {il : IL} {o : Out} : ∀ {ks : List K} {i : Nat}, run G Γ N (entryChk nfree total ks i il) ρ = some o →
    run G Γ N il ρ = some o ∧ ∀ j t, ks[j]? = some (.ptr t) → total ≤ i + j + nfree → (at_ ρ (i + j)).isP = true
  | [], i, h => ⟨h, by simp⟩
  | k :: ks, i, h => by
    have step : ∀ {il'}, il' = entryChk nfree total ks (i + 1) il → run G Γ N il' ρ = some o → ((∃ t, k = .ptr t ∧ total ≤ i + nfree) → (at_ ρ i).isP = true) →
        run G Γ N il ρ = some o ∧ ∀ j t, (k :: ks)[j]? = some (.ptr t) → total ≤ i + j + nfree → (at_ ρ (i + j)).isP = true := by
      intro il' he hr h0
      subst he
      obtain ⟨h1, h2⟩ := entry_run hr
      refine ⟨h1, fun j t hj ht => ?_⟩
      cases j with
      | zero =>
        simp only [List.getElem?_cons_zero, Option.some.injEq] at hj
        exact h0 ⟨t, hj, by omega⟩
      | succ j =>
        have := h2 j t (by simpa using hj) (by omega)
        rw [show i + (j + 1) = i + 1 + j by omega]
        exact this
    simp only [entryChk] at h
    split at h
    · rename_i t
      split at h
      · simp only [run] at h
        split at h
        · rename_i hp
          exact step rfl h fun _ => hp
        · simp at h
      · rename_i hn
        exact step rfl h fun ⟨t', _, ht⟩ => absurd ht hn
    · rename_i hk
      exact step rfl h fun ⟨t', ht, _⟩ => absurd ht (hk t')

theorem init_ok {tmps : Array Value} {ok : Nat → Prop} {nfree total : Nat} : ∀ {ks : List K} {ds : List D} {vs : List Value} {i : Nat}, RepVs C w ok ks ds vs → (∀ j d, ds[j]? = some d → at_ ρ (i + j) = d) → (∀ j x, vs[j]? = some x → tmps.getD (i + j) undef = x) →
    (∀ j t, ks[j]? = some (.ptr t) → total ≤ i + j + nfree → (at_ ρ (i + j)).isP = true) → ∀ {t v}, look (initSl C nfree total ks i) t = some v → RepSV C ρ β w ok v (tmps.getD t undef)
  | [], _, _, i, _, _, _, _, t, v, h => by simp [initSl, look] at h
  | k :: ks, _, _, i, .cons (d := d) (cs := cs) (l := l) (vs := vs) hd hl, hds, hvs, hp, t, v, h => by
    simp only [initSl, look] at h
    split at h
    · rename_i hi
      subst hi
      simp only [Option.some.injEq] at h
      have e1 := hds 0 d rfl
      have e2 := hvs 0 _ rfl
      rw [Nat.add_zero] at e1 e2
      rw [e2]
      have base : RepSV C ρ β w ok (.dat k (.var i)) (wrap k cs) := ⟨cs, by show RepC C w ok k (at_ ρ i) cs; rw [e1]; exact hd, rfl⟩
      split at h
      · rename_i t
        split at h
        · rename_i ht
          subst h
          refine ⟨cs, ?_, rfl⟩
          have := hp 0 t rfl (by omega)
          rw [Nat.add_zero, e1] at this
          show RepC C w ok (.ptr t) (.ptr (at_ ρ i).asP) cs
          rw [e1]
          cases d <;> simp only [D.isP, Bool.false_eq_true] at this
          exact hd
        · subst h; exact base
      · subst h; exact base
    · refine init_ok hl ?_ ?_ ?_ h
      · intro j d' hj
        have := hds (j + 1) d' (by simpa using hj)
        rw [show i + 1 + j = i + (j + 1) by omega]; exact this
      · intro j x hj
        have := hvs (j + 1) x (by simpa using hj)
        rw [show i + 1 + j = i + (j + 1) by omega]; exact this
      · intro j t hj ht
        have := hp (j + 1) t (by simpa using hj) (by omega)
        rw [show i + 1 + j = i + (j + 1) by omega]; exact this

theorem RepVs.len {w : World} {ok : Nat → Prop} : ∀ {ks : List K} {ds : List D} {vs : List Value}, RepVs C w ok ks ds vs → ds.length = ks.length ∧ vs.length = ks.length
  | _, _, _, .nil => ⟨rfl, rfl⟩
  | _, _, _, .cons _ hl => by
    obtain ⟨h1, h2⟩ := hl.len
    simp [h1, h2]

/-- A function's text is right, where those of the functions that it calls are. -/
theorem decompF_ok (H : COK C) {f : Nat} {sg : Sig} {fd : Func} {hints : List (Nat × List (Nat × Tm × Nat))} {il : IL} (hs : C.sigs f = some sg) (hf : C.P.funcs[f]? = some fd) (hd : decompF C sg fd hints = some il) {Γ : Fns} (HS : ∀ g, Sound C g (Γ g)) (N : Nat) :
    Sound C f (fun ds => (run C.G Γ N il ds).bind outs) := by
  intro sg' hs' ds rs hrun w ok vs HG Hok hvs
  rw [hs] at hs'
  simp only [Option.some.injEq] at hs'
  subst hs'
  unfold decompF at hd
  cases hb : fd.body with
  | none => simp [hb] at hd
  | some c =>
    simp only [hb] at hd
    split at hd
    · rename_i hc
      obtain ⟨hc1, hc2, hc3⟩ := hc
      rw [Option.map_eq_some_iff] at hd
      obtain ⟨il0, hd0, rfl⟩ := hd
      simp only at hrun
      rw [Option.bind_eq_some_iff] at hrun
      obtain ⟨out, hr, ho⟩ := hrun
      obtain ⟨hr0, hptr⟩ := entry_run hr
      obtain ⟨l1, l2⟩ := hvs.len
      refine calls_of_wp hf hb ?_
      have hsim : SimB C w ok ds { n := sg.params.length, nt := fd.ntmps, sl := initSl C fd.nfree sg.params.length sg.params 0, ob := [] } ⟨fun _ => 0, fun _ _ => undef, fun _ => 0⟩ { tmps := vs.toArray ++ Array.replicate (fd.ntmps - vs.toArray.size) undef, defers := [] } w := by
        refine ⟨Below.refl _ _, ?_, rfl, ?_, ?_, ?_, ?_⟩
        · simp; omega
        · intro t v hl
          have hvs' : RepVs C w (okk C w ok ds { n := sg.params.length, nt := fd.ntmps, sl := initSl C fd.nfree sg.params.length sg.params 0, ob := [] } ⟨fun _ => 0, fun _ _ => undef, fun _ => 0⟩ w) sg.params ds vs := hvs.keep (fun b hb => .inl ⟨hb, Hok b hb⟩) fun _ _ => rfl
          refine init_ok hvs' (ρ := ds) (nfree := fd.nfree) (total := sg.params.length) (i := 0) ?_ ?_ ?_ hl
          · intro j d hj
            rw [Nat.zero_add]
            exact at_get hj
          · intro j x hj
            rw [Nat.zero_add]
            have hj' : j < vs.length := by
              rcases Nat.lt_or_ge j vs.length with h | h
              · exact h
              · rw [List.getElem?_eq_none h] at hj; simp at hj
            simp only [Array.getD_eq_getD_getElem?]
            rw [Array.getElem?_append_left (by simpa using hj')]
            simp [hj]
          · intro j t hj ht
            exact hptr j t hj ht
        · intro n q o hl; simp [look] at hl
        · intro n m q q' o o' b hl; simp [look] at hl
        · intro n q o b hl; simp [look] at hl
      refine decomp_ok H HG Hok HS (NT := fd.ntmps) c hd0 hr0 hsim (by simpa using l1) rfl ?_ ?_
      · intro t s' il' ρ' β' a' w' k1 k2 k3 k4 k5 k6 e he
        simp only at k1
        split at k1
        · rename_i ht
          subst ht
          simp only [exitOf, if_true, Option.some.injEq] at he
          subst he
          exact ret_ok H Hok k3 k1 k2 ho
        · simp at k1
      · intro s' il' ρ' β' a' w' k1 k2 k3 k4
        exact ret_ok H Hok k3 k1 k2 ho
    · simp at hd

/-- Is every text right? -/
def TOK (C : Ctx) (T : Nat → Option IL) : Prop := ∀ f il, T f = some il → ∃ sg fd hints, C.sigs f = some sg ∧ C.P.funcs[f]? = some fd ∧ decompF C sg fd hints = some il

theorem Sound.none {C : Ctx} {f : Nat} : Sound C f (fun _ => none) := fun _ _ _ _ h => by simp at h

theorem funs_sound (H : COK C) {prim : Nat → Option (List D → Option (List D))} {T : Nat → Option IL} (HT : TOK C T) (HP : ∀ f g, prim f = some g → Sound C f g) : ∀ n f, Sound C f (funs C.G prim T n f)
  | 0, f => Sound.none
  | n + 1, f => by
    have ih := funs_sound H HT HP n
    intro sg hs ds rs hr
    rw [funs] at hr
    cases hp : prim f with
    | some g =>
      simp only [hp] at hr
      exact HP f g hp sg hs ds rs hr
    | none =>
      simp only [hp] at hr
      cases ht : T f with
      | none => simp [ht] at hr
      | some il =>
        simp only [ht] at hr
        obtain ⟨sg', fd, hints, h1, h2, h3⟩ := HT f il ht
        exact decompF_ok H h1 h2 h3 ih n sg hs ds rs hr

theorem Run_sound (H : COK C) {prim : Nat → Option (List D → Option (List D))} {T : Nat → Option IL} (HT : TOK C T) (HP : ∀ f g, prim f = some g → Sound C f g) (f : Nat) : Sound C f (Run C.G prim T f) := by
  intro sg hs ds rs hr
  obtain ⟨n, hn⟩ := (Run_iff _ _ _ _ _ _).1 hr
  exact funs_sound H HT HP n f sg hs ds rs hn

/-! ### Assembling -/
theorem TOK.nil {C : Ctx} : TOK C (look []) := fun _ _ h => by simp [look] at h
theorem TOK.cons {C : Ctx} {f : Nat} {il : IL} {l : List (Nat × IL)} (h : ∃ sg fd hints, C.sigs f = some sg ∧ C.P.funcs[f]? = some fd ∧ decompF C sg fd hints = some il) (hl : TOK C (look l)) : TOK C (look ((f, il) :: l)) := by
  intro g x hg
  simp only [look] at hg
  split at hg
  · rename_i e; subst e; simp only [Option.some.injEq] at hg; subst hg; exact h
  · exact hl g x hg
theorem PRI.nil {C : Ctx} : ∀ f g, look ([] : List (Nat × (List D → Option (List D)))) f = some g → Sound C f g := fun _ _ h => by simp [look] at h
theorem PRI.cons {C : Ctx} {f : Nat} {F : List D → Option (List D)} {l : List (Nat × (List D → Option (List D)))} (h : Sound C f F) (hl : ∀ f g, look l f = some g → Sound C f g) : ∀ x g, look ((f, F) :: l) x = some g → Sound C x g := by
  intro x g hg
  simp only [look] at hg
  split at hg
  · rename_i e; subst e; simp only [Option.some.injEq] at hg; subst hg; exact h
  · exact hl x g hg
theorem Run_at {G : Nat → D} {prim : Nat → Option (List D → Option (List D))} {T : Nat → Option IL} {f : Nat} {il : IL} (hp : prim f = none) (ht : T f = some il) (ds : List D) : Run G prim T f ds = (den G (Run G prim T) il ds).bind outs := by
  rw [Run_eq, hp, ht]
theorem Run_pri {G : Nat → D} {prim : Nat → Option (List D → Option (List D))} {T : Nat → Option IL} {f : Nat} {g : List D → Option (List D)} (hp : prim f = some g) (ds : List D) : Run G prim T f ds = g ds := by
  rw [Run_eq, hp]

/-- Of the types of the table: zero values are as told. -/
def zAllL (C : Ctx) : List (Nat × TE) → Bool
  | [] => true
  | (t, _) :: l => (!((C.zeroV t).isSome || (C.zero t).isSome) || zOK C t) && zAllL C l
def zAll (C : Ctx) : Bool := zAllL C C.tys
theorem zAllL_ok {C : Ctx} : ∀ {l : List (Nat × TE)}, zAllL C l = true → ∀ {t e}, look l t = some e → (C.zeroV t).isSome = true ∨ (C.zero t).isSome = true → zOK C t = true
  | [], _, t, e, h, _ => by simp [look] at h
  | (i, x) :: l, hl, t, e, h, ho => by
    simp only [zAllL, Bool.and_eq_true, Bool.or_eq_true, Bool.not_eq_true'] at hl
    simp only [look] at h
    split at h
    · rename_i hi
      subst hi
      rcases hl.1 with h1 | h1
      · simp only [Bool.or_eq_false_iff] at h1
        rcases ho with ho | ho
        · rw [h1.1] at ho; simp at ho
        · rw [h1.2] at ho; simp at ho
      · exact h1
    · exact zAllL_ok hl.2 h ho
def callAll (C : Ctx) : List (Nat × Sig) → Bool
  | [] => true
  | (f, _) :: l => (match C.P.funcs[f]? with
    | some fn => !fn.body.isNone && !(fn.name == "runtime.NumGoroutine")
    | none => false) && callAll C l
theorem callAll_ok {C : Ctx} : ∀ {l : List (Nat × Sig)}, callAll C l = true → ∀ {f sg}, look l f = some sg → ∃ fn, C.P.funcs[f]? = some fn ∧ fn.body.isNone = false ∧ (fn.name == "runtime.NumGoroutine") = false
  | [], _, f, sg, h => by simp [look] at h
  | (i, x) :: l, hl, f, sg, h => by
    simp only [callAll, Bool.and_eq_true] at hl
    simp only [look] at h
    split at h
    · rename_i hi
      subst hi
      cases hf : C.P.funcs[i]? with
      | none => simp [hf] at hl
      | some fn =>
        simp only [hf, Bool.and_eq_true, Bool.not_eq_true'] at hl
        exact ⟨fn, rfl, hl.1.1, hl.1.2⟩
    · exact callAll_ok hl.2 h
theorem COK.of {C : Ctx} (h1 : tysOK C C.tys = true) (h2 : zAll C = true) (h3 : ∀ f sg, C.sigs f = some sg → ∃ fn, C.P.funcs[f]? = some fn ∧ fn.body.isNone = false ∧ (fn.name == "runtime.NumGoroutine") = false) (h4 : C.P.follows .mixedOrders = true) : COK C := by
  refine ⟨h1, ?_, h3, h4⟩
  intro t ho
  cases hl : look C.tys t with
  | some e => exact zAllL_ok h2 hl ho
  | none =>
    exfalso
    have ht : C.te t = none := hl
    rcases ho with ho | ho
    · simp [Ctx.zeroV, zsv, ht] at ho
    · simp [Ctx.zero, zx, ht] at ho

/-- A call under a condition. -/
def callIf (c : Bool) (x : Option (List D)) (k : List D → Option Out) : Option Out := if c = true then x.bind k else k []
theorem callIf_true (x : Option (List D)) (k : List D → Option Out) : callIf true x k = x.bind k := rfl
theorem callIf_false (x : Option (List D)) (k : List D → Option Out) : callIf false x k = k [] := rfl
end
end Sy
