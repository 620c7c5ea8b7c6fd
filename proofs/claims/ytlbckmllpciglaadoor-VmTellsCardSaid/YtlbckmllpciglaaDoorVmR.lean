/- The rows: what lies in memory is programs, types, batches; the listed variable. -/
import Derived.Test.YtlbckmllpciglaaDoorVmK
import Derived.Test.YtlbckmllpciglaaDoorRows
import Derived.Test.YtlbckmllpciglaaDoorTie
import Derived.Test.YtlbckmllpciglaaDoorCards
import Derived.Test.YtlbckmllpciglaaDoorF7
import Derived.SevenTiedAt
set_option linter.unusedVariables false
set_option linter.unusedSimpArgs false
set_option linter.all false
namespace Go.Proofs.YtlbckmllpciglaaDoor
open Go Sy Go.RowKit Go.ChangeShapes Go.WideShapes
set_option maxRecDepth 100000

theorem kd_int : C.kd 3 = .int .i64 := by kernel_rfl
theorem kd_str : C.kd 9 = .str := by kernel_rfl
theorem kd_val : C.kd 39 = .struct 39 := by kernel_rfl
theorem kd_row : C.kd 33 = .slice 39 := by kernel_rfl
theorem kd_ins : C.kd 52 = .struct 52 := by kernel_rfl
theorem kd_inss : C.kd 22 = .slice 52 := by kernel_rfl
theorem kd_ints : C.kd 23 = .slice 3 := by kernel_rfl
theorem kd_delta : C.kd 37 = .struct 37 := by kernel_rfl
theorem fs_val : C.fields 39 = some [3, 3, 9] := by kernel_rfl
theorem fs_ins : C.fields 52 = some [3, 3, 3, 3, 3, 3, 9] := by kernel_rfl
theorem fs_delta : C.fields 37 = some [3, 33, 3] := by kernel_rfl
theorem fs_code : C.fields 25 = some [22, 23, 3] := by kernel_rfl

section
variable {w : World} {ok : Nat → Prop} {d : D} {cs : List Value}
theorem int_of (h : RepC C w ok (C.kd 3) d cs) : ∃ n : Int, d = .int n := by
  rw [kd_int] at h
  obtain ⟨n, h1, _⟩ := int_shape h
  exact ⟨n, h1⟩
theorem str_of (h : RepC C w ok (C.kd 9) d cs) : ∃ s : Bs, d = .str s := by
  rw [kd_str] at h
  obtain ⟨n, h1, _⟩ := str_shape h
  exact ⟨n, h1⟩
theorem val_of (h : RepC C w ok (C.kd 39) d cs) : ∃ v : Val, d = v.d := by
  rw [kd_val] at h
  obtain ⟨l, rfl, _, h⟩ := struct_shape h fs_val
  obtain ⟨d0, l, _, _, rfl, h0, h⟩ := RepF.step h
  obtain ⟨d1, l, _, _, rfl, h1, h⟩ := RepF.step h
  obtain ⟨d2, l, _, _, rfl, h2, h⟩ := RepF.step h
  have := RepF.done h
  subst this
  obtain ⟨n0, rfl⟩ := int_of h0
  obtain ⟨n1, rfl⟩ := int_of h1
  obtain ⟨s, rfl⟩ := str_of h2
  exact ⟨⟨n0, n1, s⟩, rfl⟩
theorem row_of (h : RepC C w ok (C.kd 33) d cs) : ∃ l : List Val, d = rowD l ∧ l.length ≤ big := by
  rw [kd_row] at h
  obtain ⟨l, rfl, hl, hm⟩ := slice_shape h
  obtain ⟨m, rfl, _⟩ := list_shape (f := Val.d) (P := fun _ => True) (l := l) fun x hx => by
    obtain ⟨c, hc⟩ := hm x hx
    obtain ⟨v, hv⟩ := val_of hc
    exact ⟨v, hv, trivial⟩
  exact ⟨m, rfl, by simpa [big] using hl⟩
theorem ints_of (h : RepC C w ok (.slice 3) d cs) : ∃ l : List Int, d = intsD l ∧ l.length ≤ big := by
  obtain ⟨l, rfl, hl, hm⟩ := slice_shape h
  obtain ⟨m, rfl, _⟩ := list_shape (f := D.int) (P := fun _ => True) (l := l) fun x hx => by
    obtain ⟨c, hc⟩ := hm x hx
    obtain ⟨v, hv⟩ := int_of hc
    exact ⟨v, hv, trivial⟩
  exact ⟨m, rfl, by simpa [big] using hl⟩
theorem delta_of (h : RepC C w ok (C.kd 37) d cs) : ∃ x : Delta, d = x.d ∧ x.row.length ≤ big := by
  rw [kd_delta] at h
  obtain ⟨l, rfl, _, h⟩ := struct_shape h fs_delta
  obtain ⟨d0, l, _, _, rfl, h0, h⟩ := RepF.step h
  obtain ⟨d1, l, _, _, rfl, h1, h⟩ := RepF.step h
  obtain ⟨d2, l, _, _, rfl, h2, h⟩ := RepF.step h
  have := RepF.done h
  subst this
  obtain ⟨n0, rfl⟩ := int_of h0
  obtain ⟨r, rfl, hr⟩ := row_of h1
  obtain ⟨n2, rfl⟩ := int_of h2
  exact ⟨⟨n0, r, n2⟩, rfl, hr⟩
theorem deltas_of (h : RepC C w ok (.slice 37) d cs) : ∃ l : List Delta, d = deltasD l ∧ l.length ≤ big ∧ ∀ x ∈ l, x.row.length ≤ big := by
  obtain ⟨l, rfl, hl, hm⟩ := slice_shape h
  obtain ⟨m, rfl, hp⟩ := list_shape (f := Delta.d) (P := fun x => x.row.length ≤ big) (l := l) fun x hx => by
    obtain ⟨c, hc⟩ := hm x hx
    exact delta_of hc
  exact ⟨m, rfl, by simpa [big] using hl, hp⟩
theorem ins_of (h : RepC C w ok (C.kd 52) d cs) : ∃ x : Ins, d = x.d := by
  rw [kd_ins] at h
  obtain ⟨l, rfl, _, h⟩ := struct_shape h fs_ins
  obtain ⟨d0, l, _, _, rfl, h0, h⟩ := RepF.step h
  obtain ⟨d1, l, _, _, rfl, h1, h⟩ := RepF.step h
  obtain ⟨d2, l, _, _, rfl, h2, h⟩ := RepF.step h
  obtain ⟨d3, l, _, _, rfl, h3, h⟩ := RepF.step h
  obtain ⟨d4, l, _, _, rfl, h4, h⟩ := RepF.step h
  obtain ⟨d5, l, _, _, rfl, h5, h⟩ := RepF.step h
  obtain ⟨d6, l, _, _, rfl, h6, h⟩ := RepF.step h
  have := RepF.done h
  subst this
  obtain ⟨n0, rfl⟩ := int_of h0
  obtain ⟨n1, rfl⟩ := int_of h1
  obtain ⟨n2, rfl⟩ := int_of h2
  obtain ⟨n3, rfl⟩ := int_of h3
  obtain ⟨n4, rfl⟩ := int_of h4
  obtain ⟨n5, rfl⟩ := int_of h5
  obtain ⟨s, rfl⟩ := str_of h6
  exact ⟨⟨n0, n1, n2, n3, n4, n5, s⟩, rfl⟩
theorem prg_of (h : RepC C w ok (.struct 25) d cs) : ∃ c : Prg, d = c.d ∧ c.ins.length ≤ big ∧ c.types.length ≤ big := by
  obtain ⟨l, rfl, _, h⟩ := struct_shape h fs_code
  obtain ⟨d0, l, _, _, rfl, h0, h⟩ := RepF.step h
  obtain ⟨d1, l, _, _, rfl, h1, h⟩ := RepF.step h
  obtain ⟨d2, l, _, _, rfl, h2, h⟩ := RepF.step h
  have := RepF.done h
  subst this
  rw [kd_inss] at h0
  rw [kd_ints] at h1
  obtain ⟨l0, rfl, hl, hm⟩ := slice_shape h0
  obtain ⟨m, rfl, _⟩ := list_shape (f := Ins.d) (P := fun _ => True) (l := l0) fun x hx => by
    obtain ⟨c, hc⟩ := hm x hx
    obtain ⟨v, hv⟩ := ins_of hc
    exact ⟨v, hv, trivial⟩
  obtain ⟨ts, rfl, ht⟩ := ints_of h1
  obtain ⟨n2, rfl⟩ := int_of h2
  exact ⟨⟨m, ts, n2⟩, rfl, by simpa [big] using hl, ht⟩
end

theorem vmBatches_all (l : List D) (w : World) (ok : Nat → Prop) (vs : List Value) (h : RepVs C w ok [.struct 25, .slice 3, .slice 37, .slice 37] l vs) : R 3 l = some [.bool true] := by
  obtain ⟨d0, l, _, _, rfl, h0, h⟩ := RepVs.step h
  obtain ⟨d1, l, _, _, rfl, h1, h⟩ := RepVs.step h
  obtain ⟨d2, l, _, _, rfl, h2, h⟩ := RepVs.step h
  obtain ⟨d3, l, _, _, rfl, h3, h⟩ := RepVs.step h
  have := RepVs.done h
  subst this
  obtain ⟨c, rfl, _⟩ := prg_of h0
  obtain ⟨cols, rfl, hc⟩ := ints_of h1
  obtain ⟨a, rfl, ha, hra⟩ := deltas_of h2
  obtain ⟨b, rfl, hb, hrb⟩ := deltas_of h3
  exact vmBatches_law c cols a b hc ha hb hra hrb

/-! ### The listed variable -/
def clS : List Nat := [25, 22, 23, 3, 52, 9, 26, 37, 33, 39]
theorem clS_ok : closedB C clS = true := by kernel_rfl
def clN : List Nat := [105, 9]
theorem clN_ok : closedB C clN = true := by kernel_rfl
theorem own : ownKnob Tryd.prog.godebug = none := by kernel_rfl
theorem laidOut : laidOutB Tryd.prog = true := by kernel_rfl
theorem gNames : Tryd.prog.globalNamed "errata/code.names" = some 0 := by kernel_rfl
theorem tNames : (Tryd.prog.globals[0]?).map (·.type) = some 105 := by kernel_rfl
def laidNames : List (String × DataW Unit) := [("errata/code.names", Rows.laid_errata_code_names)]

theorem gok_of {W : World} (h : laidMetH Tryd.prog laidNames W) : GOK C W (okW W) := by
  rw [MakeChecks.laidMetH_plain _ _ _ (by kernel_rfl)] at h
  obtain ⟨ps, ⟨g0, t0, cs0, f0, p0, q0, hg0, ht0, hv0, hd0, _⟩, _, _⟩ := h
  obtain rfl := Option.some.inj (gNames.symm.trans hg0)
  obtain rfl := Option.some.inj (tNames.symm.trans ht0)
  have hr := trod_rep (C := C) cok clN_ok f0 105 _ _ (by decide) hd0 (by
    have : ((Rows.laid_errata_code_names (H := Unit)).weights Tryd.prog 105).all (· ≤ reachBytes) = true := by kernel_rfl
    intro n hn
    have := List.all_eq_true.1 this n hn
    simpa using this)
  have hD : ofW C 105 (Rows.laid_errata_code_names (H := Unit)) = C.G 0 := by kernel_rfl
  rw [hD] at hr
  have hcell := World.var?_cell hg0 hv0
  intro g t hg
  have hgt : g = 0 ∧ t = 105 := by
    have : (if (0 : Nat) = g then some 105 else none) = some t := hg
    split at this
    · rename_i e
      simp only [Option.some.injEq] at this
      exact ⟨e.symm, this.symm⟩
    · simp at this
  obtain ⟨rfl, rfl⟩ := hgt
  have hne : ∃ v, cs0.toList[0]? = some v := by
    have hl := RepC.len cok hr
    have : C.ksz (C.kd 105) = 23 := by kernel_rfl
    rw [this] at hl
    exact ⟨cs0.toList[0]'(by omega), List.getElem?_eq_getElem _⟩
  obtain ⟨v0, hv0'⟩ := hne
  have h0 := hcell 0
  have h0' : W.cell? ⟨0, 0, none⟩ = some v0 := by rw [h0]; simpa using hv0'
  exact ⟨_, .ptr (cell_spot h0').2 hr (fun j v hv => by rw [Nat.zero_add, hcell j]; simpa using hv), rfl⟩
end Go.Proofs.YtlbckmllpciglaaDoor
