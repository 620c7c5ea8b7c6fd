/- The framework, part 3: SyOps5, SyOps6, SyOps7, SyOps8 -/
import Derived.Test.YtlbckmllpciglaaDoorF2
import Derived.Laws.MakeOwn
import Derived.Great.BuildSlice
import Derived.Laws.Slices
set_option linter.unusedVariables false
set_option linter.unusedSimpArgs false
set_option linter.all false

/- The operations that make or write objects. -/
namespace Sy
open Go Go.RowKit

theorem setCells_row (g : Nat) (e : TypeId) : ∀ (vs : List Value) (o : Nat) (w : World) (pre mid post : List Value), w.heap[g]? = some (.cells (pre ++ mid ++ post).toArray e (0, 0)) → pre.length = o → mid.length = vs.length →
    (w.setCells g o vs).heap[g]? = some (.cells (pre ++ vs ++ post).toArray e (0, 0)) ∧ (∀ k, k ≠ g → (w.setCells g o vs).heap[k]? = w.heap[k]?) ∧ (w.setCells g o vs).heap.size = w.heap.size ∧
    (w.setCells g o vs).os = w.os ∧ (w.setCells g o vs).tape = w.tape ∧ (w.setCells g o vs).output = w.output
  | [], o, w, pre, mid, post, h, _, hm => by
    have : mid = [] := List.eq_nil_of_length_eq_zero (by simpa using hm)
    subst this
    exact ⟨h, fun _ _ => rfl, rfl, rfl, rfl, rfl⟩
  | v :: vs, o, w, pre, mid, post, h, ho, hm => by
    cases mid with
    | nil => simp at hm
    | cons m mid =>
      have h1 : (w.setCell ⟨g, o, none⟩ v).heap[g]? = some (.cells ((pre ++ [v]) ++ mid ++ post).toArray e (0, 0)) := by
        simp only [World.setCell, Array.getElem?_modify, if_true, h, Option.map_some, Option.isSome_none, Bool.false_eq_true, if_false]
        congr 2
        apply Array.ext'
        simp [← ho]
      obtain ⟨i1, i2, i3, i4, i5, i6⟩ := setCells_row g e vs (o + 1) _ (pre ++ [v]) mid post h1 (by simp [ho]) (by simpa using hm)
      simp only [World.setCells]
      refine ⟨by rw [i1]; simp [List.append_assoc], fun k hk => by rw [i2 k hk]; exact Below.heap_setCell _ _ _ _ hk, by rw [i3]; simp [World.setCell], i4, i5, i6⟩

theorem madeCells_eq (z : List Value) (hz : 0 < z.length) : ∀ (c : Nat), (madeCells z.toArray (c * z.length)).toList = (List.replicate c z).flatten
  | 0 => by simp [madeCells, Array.range_zero']
  | c + 1 => by
    have ih := madeCells_eq z hz c
    rw [List.replicate_succ', List.flatten_append, ← ih]
    simp only [madeCells, Array.toList_map, Array.toList_range, List.flatten_singleton, List.flatten_cons, List.flatten_nil, List.append_nil, List.size_toArray]
    rw [show (c + 1) * z.length = c * z.length + z.length by rw [Nat.add_mul]; omega, List.range_add, List.map_append]
    congr 1
    rw [List.map_map]
    apply List.ext_getElem
    · simp
    · intro j h1 h2
      simp only [List.length_map, List.length_range] at h1
      have : (c * z.length + j) % z.length = j := by rw [Nat.mul_comm, Nat.mul_add_mod, Nat.mod_eq_of_lt h1]
      simp [this, h1]

section
variable {C : Ctx} (H : COK C) {w0 : World} {ok0 : Nat → Prop} {ρ : List D} {s : S} {β : Be} {a : Act} {w : World} {pc : PC}

def S.upd (s : S) (pc : PC) (up : List (Nat × Ob)) : S := { s with ob := putOb pc up s.ob }
/-- An operation does what the program says of it. -/
def Good (C : Ctx) (w0 : World) (ok0 : Nat → Prop) (ρ : List D) (s : S) (pc : PC) (o : Oper) (r : Res) (a : Act) (w : World) : Prop :=
  ∀ (K : Act → World → Prop) (Q : Exit → Act → World → Prop), (∀ β' x w', SimB C w0 ok0 ρ (s.upd pc r.up) β' a w' → RepSV C ρ β' w' (okk C w0 ok0 ρ (s.upd pc r.up) β' w') r.v x → K (a.put o.dst x) w') → o.wp C.P a w K Q

theorem Good.value {o : Oper} {r : Res} {β' : Be} {x : Value} {w' : World} (hx : (execOp a.eval o).run C.P w = .ok (.value x) w') (h : SimB C w0 ok0 ρ (s.upd pc r.up) β' a w') (hv : RepSV C ρ β' w' (okk C w0 ok0 ρ (s.upd pc r.up) β' w') r.v x) : Good C w0 ok0 ρ s pc o r a w := by
  intro K Q hK
  unfold Oper.wp
  rw [hx]
  exact hK β' x w' h hv
theorem Good.unit {o : Oper} {r : Res} {β' : Be} {w' : World} (hx : (execOp a.eval o).run C.P w = .ok .skip w') (h : SimB C w0 ok0 ρ (s.upd pc r.up) β' a w') (hv : r.v = .junk) : Good C w0 ok0 ρ s pc o r a w := by
  intro K Q hK
  unfold Oper.wp
  rw [hx]
  exact hK β' undef w' h (by rw [hv]; trivial)
theorem Good.pure {o : Oper} {l : List Pre} {v : SV} {x : Value} (h : SimB C w0 ok0 ρ s β a w) (hx : (execOp a.eval o).run C.P w = .ok (.value x) w) (hv : RepSV C ρ β w (okk C w0 ok0 ρ s β w) v x) : Good C w0 ok0 ρ s pc o ⟨l, v, [], []⟩ a w :=
  Good.value (r := ⟨l, v, [], []⟩) hx h hv

/-! ### A new object -/
def Be.new (β : Be) (m b t : Nat) (v : Value) : Be := { bk := fun n => if n = m then b else β.bk n, vl := fun n ver => if n = m then v else β.vl n ver, ty := fun n => if n = m then t else β.ty n }
theorem Be.new_agree (β : Be) (m b t : Nat) (v : Value) : Be.agree m β (β.new m b t v) := fun n hn => by simp [Be.new, hn]
theorem RepOb.other {β' : Be} {ok : Nat → Prop} {m n : Nat} {o : Ob} (hb : Be.agree m β β') (hn : n ≠ m) (hf : o.free m = true) (h : RepOb C w0 ρ β w ok n o) : RepOb C w0 ρ β' w ok n o := by
  obtain ⟨h1, h2, h3⟩ := hb n hn
  cases o with
  | box t v =>
    obtain ⟨g1, g2, cs, E, g3, g4⟩ := h
    exact ⟨by rw [h2]; exact g1, g2, cs, E, by rw [h1]; exact g3, RepSc.other hb hf g4⟩
  | arr e c ver =>
    obtain ⟨g1, g2, l, cs, g3, g4, g5, g6⟩ := h
    exact ⟨by rw [h2]; exact g1, g2, l, cs, g3, g4, g5, by rw [h3]; exact g6⟩
  | fbox t c =>
    obtain ⟨g1, g2, g3, cs, g4, g5⟩ := h
    exact ⟨by rw [h2]; exact g1, g2, by rw [h1]; exact g3, cs, g4, by rw [h1]; exact g5⟩
  | farr e c ver =>
    obtain ⟨g1, g2, g3, g4⟩ := h
    exact ⟨by rw [h2]; exact g1, g2, by rw [h3]; exact g3, by rw [h3]; exact g4⟩
  | narr e f c ver rv hole =>
    obtain ⟨g1, g2, l, cs, rows, g3, g4, g5, g6, g7, g8, g9, g10⟩ := h
    exact ⟨by rw [h2]; exact g1, g2, l, cs, rows, g3, g4, by rw [h3]; exact g5, by rw [h3]; exact g6, g7, g8, g9, by rw [h3]; exact g10⟩
theorem blkOf_other {β' : Be} {m n : Nat} {o : Ob} (hb : Be.agree m β β') (hn : n ≠ m) : blkOf β' n o = blkOf β n o := by
  obtain ⟨h1, h2, h3⟩ := hb n hn
  cases o <;> simp [blkOf, h1, h3]
theorem Blk_other {β' : Be} {m n : Nat} {o : Ob} (hb : Be.agree m β β') (hn : n ≠ m) : Blk β' n o = Blk β n o := by
  have h1 := blkOf_other (o := o) hb hn
  obtain ⟨_, _, h3⟩ := hb n hn
  funext b
  unfold Blk
  rw [h1]
  cases o <;> simp [hidB, h3]

/-- A new object, in a world that has grown. -/
theorem SimB.freshG (h : SimB C w0 ok0 ρ s β a w) {m : Nat} {o : Ob} {β' : Be} {w' : World} (hag : Be.agree m β β') (hpc : pcOK C.G ρ pc = true) (hfr : slFree m s.sl = true) (hfo : obFree m s.ob = true) (hb : Below w.heap.size w w')
    (hnew : ∀ x, o.mut = true → Blk β' m o x → w.heap.size ≤ x ∧ x < w'.heap.size)
    (hR : ∀ ok', (∀ b, okk C w0 ok0 ρ s β w b → ok' b) → RepOb C w0 ρ β' w' ok' m o) :
    SimB C w0 ok0 ρ (s.upd pc [(m, o)]) β' a w' := by
  have h0 := h.below.size
  refine h.up1 (o := o) hpc (h.below.trans (hb.mono h0)) hb.size (fun _ => False) (fun _ he => he.elim) (fun x hx _ => hb.block x hx) (fun x hm hx => ⟨.inr (hnew x hm hx).1, (hnew x hm hx).2⟩) ?_ ?_ ?_ hR
  · exact fun ok t' u x hl hu => RepSV.other hag (slFree_look hfr hl) hu
  · intro ok n q o' hn hl hu
    exact RepOb.other hag hn (obFree_look hfo hl).2 hu
  · intro n q o' hn hl
    exact Blk_other hag hn
theorem SimB.fresh (h : SimB C w0 ok0 ρ s β a w) {m : Nat} {o : Ob} {b t : Nat} {v : Value} {w' : World} (hpc : pcOK C.G ρ pc = true) (hfr : slFree m s.sl = true) (hfo : obFree m s.ob = true) (hb : Below w.heap.size w w')
    (hnew : ∀ x, o.mut = true → Blk (β.new m b t v) m o x → w.heap.size ≤ x ∧ x < w'.heap.size)
    (hR : ∀ ok', (∀ b, okk C w0 ok0 ρ s β w b → ok' b) → RepOb C w0 ρ (β.new m b t v) w' ok' m o) :
    SimB C w0 ok0 ρ (s.upd pc [(m, o)]) (β.new m b t v) a w' := h.freshG (Be.new_agree β m b t v) hpc hfr hfo hb hnew hR

theorem upOK_new {m : Nat} {o : Ob} (h : upOK s pc (m, o) = true) (hn : look s.ob m = none) : slFree m s.sl = true ∧ obFree m s.ob = true ∧ o.free m = true := by
  unfold upOK at h
  simp only [hn] at h
  cases o <;> simp only [Bool.and_eq_true, Bool.false_eq_true] at h
  · exact ⟨h.1.1, h.1.2, h.2⟩
  · exact ⟨h.1.2, h.2, rfl⟩
  · exact ⟨h.1.2, h.2, rfl⟩
theorem upOK_old {m : Nat} {o : Ob} {q : PC} {o0 : Ob} (h : upOK s pc (m, o) = true) (hn : look s.ob m = some (q, o0)) : subPC q pc = true ∧ subPC pc q = true := by
  unfold upOK at h
  simp only [hn] at h
  cases o0 <;> cases o <;> simp only [Bool.and_eq_true, Bool.false_eq_true] at h
  all_goals first | exact h | exact h.1
theorem below_alloc' (w : World) (o : Obj) : Below w.heap.size w (w.alloc o) := (Below.refl _ _).alloc (Nat.le_refl _) o

/-- alloc, box. -/
theorem box_new (h : SimB C w0 ok0 ρ s β a w) (hpc : pcOK C.G ρ pc = true) {m t : Nat} {v : SV} {cs : List Value} (hu : upOK s pc (m, .box t v) = true) (hn : look s.ob m = none) (ht : inTab C t = true) (hv : RepSc C ρ β w (okk C w0 ok0 ρ s β w) v (C.kd t) cs) :
    ∃ β', SimB C w0 ok0 ρ (s.upd pc [(m, .box t v)]) β' a (w.alloc (.cells cs.toArray t)) ∧ RepSV C ρ β' (w.alloc (.cells cs.toArray t)) (okk C w0 ok0 ρ (s.upd pc [(m, .box t v)]) β' (w.alloc (.cells cs.toArray t))) (.bptr m [] t) (.pointer (some ⟨w.heap.size, 0, none⟩)) := by
  obtain ⟨h1, h2, h3⟩ := upOK_new hu hn
  have hs := h.below.size
  have hag := Be.new_agree β m w.heap.size t undef
  refine ⟨β.new m w.heap.size t undef, h.fresh hpc h1 h2 (below_alloc' _ _) ?_ ?_, 0, ?_, ?_⟩
  · intro x _ hx
    rw [Blk_box] at hx
    simp only [Be.new, if_true] at hx
    subst hx
    simp
  · intro ok' hok
    have hv' := RepSc.other hag h3 hv
    refine ⟨by simp [Be.new], ht, cs, t, ?_, hv'.keep hok fun b hb => ?_⟩
    · have : (β.new m w.heap.size t undef).bk m = w.heap.size := by simp [Be.new]
      rw [this]
      exact heap_alloc_new w _
    · exact heap_alloc_old w _ b (okk_size hs hb)
  · simp [offP, Be.new]
  · simp [Be.new]

/-- A new row of one's own. -/
theorem row_new (h : SimB C w0 ok0 ρ s β a w) (hpc : pcOK C.G ρ pc = true) {m e : Nat} {c : Ex} {l : List D} {cs : List Value} {v : Value} {w' : World} (hfr : slFree m s.sl = true) (hfo : obFree m s.ob = true) (he : inTab C e = true)
    (hc : c.ev C.G ρ = .list l) (hm : l.length ≤ maxN) (hb : Below w.heap.size w w') (hl : ∀ ok', (∀ b, okk C w0 ok0 ρ s β w b → ok' b) → RepL C w' ok' (C.kd e) l cs) (ho : w'.ownsRow w.heap.size e (C.tsz e) v l.length cs) :
    ∃ β', SimB C w0 ok0 ρ (s.upd pc [(m, .arr e c 0)]) β' a w' ∧ ∀ ok, RepSV C ρ β' w' ok (.sli m 0 e) v := by
  have hs := h.below.size
  have hvl : (β.new m 0 e v).vl m 0 = v := by simp [Be.new]
  refine ⟨β.new m 0 e v, h.fresh hpc hfr hfo hb ?_ ?_, fun ok => ?_⟩
  · intro x _ hx
    rw [Blk_arr, hvl] at hx
    exact ho.lt x hx
  · intro ok' hok
    refine ⟨by simp [Be.new], he, l, cs, hc, hl ok' hok, hm, ?_⟩
    rw [hvl]
    refine ⟨ho.1, ho.2.imp id ?_⟩
    rintro ⟨g, cap, cur, h1, h2, h3⟩
    exact ⟨g, cap, cur, h1, Nat.le_trans hs h2, h3⟩
  · obtain ⟨a', c', hv⟩ := ownsRow_slice ho
    refine ⟨hvl.symm, ?_⟩
    rw [hvl]
    exact ⟨_, _, _, hv⟩

theorem run_alloc {P : Program} {t : Nat} {i : TypeInfo} {z : Value} (hi : P.info? t = some i) (hz : i.zero = some z) (w : World) :
    (Instr.alloc t true (.tuple #[])).run P w = .ok (.pointer (some ⟨w.heap.size, 0, none⟩)) (w.alloc (.cells z.cells t)) := by
  simp [Instr.alloc, zeroValue, typeInfo, hi, hz, newVar, newRow]
theorem run_boxv {P : Program} (t : Nat) (x : Value) (w : World) :
    (Instr.box t x).run P w = .ok (.pointer (some ⟨w.heap.size, 0, none⟩)) (w.alloc (.cells x.cells t)) := by
  simp [Instr.box, newVar, newRow]
theorem zeroV_inTab {t : Nat} {v : SV} (h : C.zeroV t = some v) : inTab C t = true := by
  unfold Ctx.zeroV at h
  unfold inTab
  unfold zsv at h
  cases hl : C.te t with
  | none => simp [hl] at h
  | some e => rfl
theorem zero_inTab {t : Nat} {v : Ex} (h : C.zero t = some v) : inTab C t = true := by
  unfold Ctx.zero at h
  unfold inTab
  unfold zx at h
  cases hl : C.te t with
  | none => simp [hl] at h
  | some e => rfl
theorem zero_ok (H : COK C) {t : Nat} {e : Ex} {ok : Nat → Prop} {w : World} (h : C.zero t = some e) : ∃ i z, C.P.info? t = some i ∧ i.zero = some z ∧ RepC C w ok (C.kd t) (e.ev C.G ρ) z.cells.toList := by
  obtain ⟨i, z, h1, h2, h3⟩ := zero_fact (H.zero t (.inr (by rw [h]; rfl)))
  obtain ⟨c1, h4, h5⟩ := zx_ok (ρ := ρ) (w := w) (ok := ok) 12 t e _ _ h h3
  rw [List.append_nil] at h4
  exact ⟨i, z, h1, h2, by rw [h4]; exact h5⟩

theorem RepL.replicate {ok : Nat → Prop} {k : K} {d : D} {z : List Value} (h : RepC C w ok k d z) : ∀ (n : Nat), RepL C w ok k (List.replicate n d) (List.replicate n z).flatten
  | 0 => .nil
  | n + 1 => .cons h (RepL.replicate h n)
theorem flatten_replicate_take {z : List Value} : ∀ (c l : Nat), l ≤ c → ((List.replicate c z).flatten).take (l * z.length) = (List.replicate l z).flatten
  | c, 0, _ => by simp
  | 0, l + 1, h => by omega
  | c + 1, l + 1, h => by
    rw [List.replicate_succ, List.flatten_cons, List.replicate_succ, List.flatten_cons, Nat.add_mul, Nat.one_mul, Nat.add_comm (l * z.length), List.take_append]
    congr 1
    · exact List.take_of_length_le (by omega)
    · rw [Nat.add_sub_cancel_left]
      exact flatten_replicate_take c l (by omega)

theorem alloc_ok (H : COK C) (h : SimB C w0 ok0 ρ s β a w) (hpc : pcOK C.G ρ pc = true) {o : Oper} {t m : Nat} {z : SV} (ho : o.op = .alloc t) (hz : C.zeroV t = some z)
    (hu : upOK s pc (m, .box t z) = true) (hn : look s.ob m = none) {l : List Pre} : Good C w0 ok0 ρ s pc o ⟨l, .bptr m [] t, [(m, .box t z)], [m]⟩ a w := by
  obtain ⟨i, zv, h1, h2, h3⟩ := zeroV_ok (ρ := ρ) (β := β) (w := w) (ok := okk C w0 ok0 ρ s β w) H hz
  obtain ⟨β', k1, k2⟩ := box_new h hpc hu hn (zeroV_inTab hz) h3
  rw [Array.toArray_toList] at k1 k2
  refine Good.value (r := ⟨l, .bptr m [] t, [(m, .box t z)], [m]⟩) ?_ k1 k2
  simp [execOp, ho, run_alloc h1 h2]
theorem box_ok (H : COK C) (h : SimB C w0 ok0 ρ s β a w) (hpc : pcOK C.G ρ pc = true) {o : Oper} {t m : Nat} {x : Operand} {v : SV} (ho : o.op = .box t x) (hv : RepSV C ρ β w (okk C w0 ok0 ρ s β w) v (a.eval x)) (hk : kindOK C (C.kd t) v = true) (ht : inTab C t = true)
    (hu : upOK s pc (m, .box t v) = true) (hn : look s.ob m = none) {l : List Pre} : Good C w0 ok0 ρ s pc o ⟨l, .bptr m [] t, [(m, .box t v)], [m]⟩ a w := by
  obtain ⟨cs, h1, h2⟩ := RepSV.toC hk hv
  obtain ⟨β', k1, k2⟩ := box_new h hpc hu hn ht h1
  refine Good.value (r := ⟨l, .bptr m [] t, [(m, .box t v)], [m]⟩) ?_ k1 k2
  simp [execOp, ho, run_boxv, h2, RepSc.cells H ht h1]
theorem make_ok (H : COK C) (h : SimB C w0 ok0 ρ s β a w) (hpc : pcOK C.G ρ pc = true) {o : Oper} {t m e : Nat} {x y : Operand} {lx cx z : Ex} (ho : o.op = .makeSlice t x y) (hk : C.kd t = .slice e) (hz : C.zero e = some z)
    (hx : RepV C w (okk C w0 ok0 ρ s β w) (.int .i64) (lx.ev C.G ρ) (a.eval x)) (hy : RepV C w (okk C w0 ok0 ρ s β w) (.int .i64) (cx.ev C.G ρ) (a.eval y)) (hc : (Ex.bin (.ble maxN) lx cx).ev C.G ρ = .bool true)
    (hu : upOK s pc (m, .arr e (.bin .rep lx z) 0) = true) (hn : look s.ob m = none) {l : List Pre} : Good C w0 ok0 ρ s pc o ⟨l, .sli m 0 e, [(m, .arr e (.bin .rep lx z) 0)], [m]⟩ a w := by
  obtain ⟨n1, e1, v1, _⟩ := RepV.int hx
  obtain ⟨n2, e2, v2, _⟩ := RepV.int hy
  simp only [Ex.ev, U2.ev, e1, e2, D.asI, D.bool.injEq, decide_eq_true_eq] at hc
  obtain ⟨c1, c2, c3⟩ := hc
  have he := zero_inTab hz
  obtain ⟨i, zv, h1, h2, _⟩ := zero_ok (ρ := ρ) (w := w) (ok := fun _ => True) H hz
  obtain ⟨i', h1', hsz, hby⟩ := info_fact H he
  rw [h1] at h1'
  simp only [Option.some.injEq] at h1'
  subst h1'
  obtain ⟨hu1, _, _⟩ := slice_fact H hk
  have hbytes : (i.bytes : Int) * n2 ≤ 281474976710656 := by
    unfold maxN at c3
    have : (i.bytes : Int) * n2 ≤ 4096 * 34359738368 := Int.mul_le_mul (by omega) (by omega) (by omega) (by omega)
    omega
  unfold maxN at c3
  have hrun := run_make (P := C.P) w t e i zv hu1 h1 h2 .i64 .i64 n1 n2 c1 c2 hbytes (by omega)
  obtain ⟨f1, f2, _⟩ := upOK_new hu hn
  have hzc : ∀ (w : World) ok, RepC C w ok (C.kd e) (z.ev C.G ρ) zv.cells.toList := fun w ok => by
    obtain ⟨i2, z2, g1, g2, g3⟩ := zero_ok (ρ := ρ) (w := w) (ok := ok) H hz
    rw [h1] at g1
    simp only [Option.some.injEq] at g1
    subst g1
    rw [h2] at g2
    simp only [Option.some.injEq] at g2
    subst g2
    exact g3
  have hzl : zv.cells.toList.length = i.size := by
    rw [RepC.len H (hzc w fun _ => True), kd_size H he, hsz]
  have hpos := tsz_pos H he
  have hmc : (madeCells zv.cells (n2.toNat * i.size)).toList = (List.replicate n2.toNat zv.cells.toList).flatten := by
    have := madeCells_eq zv.cells.toList (by omega) n2.toNat
    rw [hzl, Array.toArray_toList] at this
    exact this
  obtain ⟨β', k1, k2⟩ := row_new h hpc f1 f2 he (c := .bin .rep lx z) (l := List.replicate n1.toNat (z.ev C.G ρ)) (cs := (List.replicate n1.toNat zv.cells.toList).flatten) (v := .slice (some ⟨w.heap.size, 0, none⟩) n1.toNat n2.toNat)
    (by simp [Ex.ev, U2.ev, e1, D.asI]) (by simp [maxN]; omega) (below_alloc' w (.cells (madeCells zv.cells (n2.toNat * i.size)) e)) (fun ok' _ => RepL.replicate (hzc _ ok') _)
    (by
      refine ⟨by simp [← hsz, hzl], .inr ⟨w.heap.size, n2.toNat, _, by simp, Nat.le_refl _, heap_alloc_new w _, by simp; omega, by simp only [maxLen]; omega, by simp [size_madeCells, hsz], ?_⟩⟩
      rw [hmc, List.length_replicate, ← hsz, ← hzl]
      exact flatten_replicate_take _ _ (by omega))
  refine Good.value (r := ⟨l, .sli m 0 e, [(m, .arr e (.bin .rep lx z) 0)], [m]⟩) ?_ k1 (k2 _)
  simp [execOp, ho, v1, v2, hrun]
end
end Sy

/- Stores; appending. -/
namespace Sy
open Go Go.RowKit

section
variable {C : Ctx} (H : COK C) {w0 : World} {ok0 : Nat → Prop} {ρ : List D} {s : S} {β : Be} {a : Act} {w : World} {pc : PC} {ob : Obs}

theorem Below.setCells {B : Nat} {w w' : World} (hos : w'.os = w.os) (ht : w'.tape = w.tape) (ho : w'.output = w.output) (hs : w'.heap.size = w.heap.size) {g : Nat} (hg : B ≤ g) (hb : ∀ k, k ≠ g → w'.heap[k]? = w.heap[k]?) : Below B w w' :=
  ⟨hos, ht, ho, by omega, fun k hk => hb k (by omega)⟩

theorem there_of {b : Nat} {e : Nat} {pre mid post : List Value} (h : w.heap[b]? = some (.cells (pre ++ mid ++ post).toArray e (0, 0))) : w.there b pre.length mid.length := by
  intro j hj
  refine ⟨?_, frozen_of_row w b _ _ e h⟩
  rw [cell_of_row w b _ _ e (0, 0) h]
  simp only [List.getElem?_toArray, Option.isSome_iff_exists]
  exact ⟨(pre ++ mid ++ post)[pre.length + j]'(by simp; omega), List.getElem?_eq_getElem _⟩

theorem store_box (H : COK C) (h : SimB C w0 ok0 ρ s β a w) (hpc : pcOK C.G ρ pc = true) (hob : ∀ m o, ob m = some o → obsOf s pc m = some o) {o : Oper} {t m tb : Nat} {p : List Nat} {x y : Operand} {v v' xv r : SV} (ho : o.op = .store t x y)
    (hx : RepSV C ρ β w (okk C w0 ok0 ρ s β w) (.bptr m p t) (a.eval x)) (hy : RepSV C ρ β w (okk C w0 ok0 ρ s β w) xv (a.eval y)) (hm : ob m = some (.box tb v)) (hp : proj C v tb p = some (r, t)) (hk : kindOK C (C.kd t) xv = true)
    (hu : upd C v tb p xv = some v') {l : List Pre} : Good C w0 ok0 ρ s pc o ⟨l, .junk, [(m, .box tb v')], []⟩ a w := by
  obtain ⟨q, h1, h2⟩ := obsOf_some (hob m _ hm)
  have hq := subPC_ok h2 hpc
  obtain ⟨g1, g2, cs, E, g3, g4⟩ := h.ob m q _ h1 hq
  have hs := h.below.size
  have hrng := h.rng m q _ (β.bk m) h1 hq rfl (Blk_box.2 rfl)
  obtain ⟨off, e1, e2⟩ := hx
  rw [g1] at e1
  have ht := offP_inTab H p g2 e1
  obtain ⟨xs, x1, x2⟩ := RepSV.toC hk hy
  obtain ⟨pre, c1, post, k1, k2, k3, k4⟩ := upd_ok H p hu g4 e1 g2 x1
  have hxl := RepSc.repC_len H ht x1
  subst k1
  obtain ⟨i1, i2, i3, i4, i5, i6⟩ := setCells_row (β.bk m) E xs off w pre c1 post g3 k2 k3
  have hrun := store_run (w := w) (b := β.bk m) (o := off) H ht hxl x1.one (RepSc.cells H ht x1) (by rw [← k2, ← k3]; exact there_of g3)
  have hsim : SimB C w0 ok0 ρ (s.upd pc [(m, .box tb v')]) β a (w.setCells (β.bk m) off xs) := by
    refine h.up1 (o := .box tb v') hpc (h.below.trans (Below.setCells i4 i5 i6 i3 hrng.1 i2)) (by omega) (fun b => b = β.bk m) ?_ ?_ ?_ (fun _ _ _ _ _ hv => hv) (fun _ _ _ _ _ _ hv => hv) (fun _ _ _ _ _ => rfl) ?_
    · rintro b rfl
      exact ⟨⟨m, q, _, h1, hq, rfl, Blk_box.2 rfl⟩, fun n q' o' hn hq' hm' hb' => h.sep n m q' q o' _ _ hn h1 hq' hq hm' rfl hb' (Blk_box.2 rfl)⟩
    · intro b hb hne
      exact i2 b fun e => hne (by rw [e])
    · intro b _ hb
      rw [Blk_box] at hb
      subst hb
      have := hrng.2
      exact ⟨.inl rfl, by show β.bk m < _; omega⟩
    · intro ok' hok
      refine ⟨g1, g2, pre ++ xs ++ post, E, i1, k4.keep hok fun b hb => i2 b ?_⟩
      rintro rfl
      exact okk_mut h hb ⟨m, q, _, h1, hq, rfl, Blk_box.2 rfl⟩
  refine Good.unit (r := ⟨l, .junk, [(m, .box tb v')], []⟩) ?_ hsim rfl
  simp [execOp, ho, e2, x2, hrun]

theorem RepL.set (H : COK C) {ok : Nat → Prop} {k : K} {l : List D} {cs : List Value} (h : RepL C w ok k l cs) : ∀ {i d}, l[i]? = some d → ∃ pre c1 post, cs = pre ++ c1 ++ post ∧ pre.length = i * C.ksz k ∧ RepC C w ok k d c1 ∧ ∀ x xs, RepC C w ok k x xs → RepL C w ok k (l.set i x) (pre ++ xs ++ post) := by
  induction l generalizing cs with
  | nil => intro i d hi; simp at hi
  | cons y l ih =>
    cases h with
    | cons hc hl =>
      rename_i c c'
      intro i d hi
      cases i with
      | zero =>
        simp only [List.getElem?_cons_zero, Option.some.injEq] at hi
        subst hi
        exact ⟨[], c, c', by simp, by simp, hc, fun x xs hx => .cons hx hl⟩
      | succ i =>
        obtain ⟨pre, c1, post, e1, e2, e3, e4⟩ := ih hl (i := i) (by simpa using hi)
        refine ⟨c ++ pre, c1, post, by rw [e1]; simp [List.append_assoc], ?_, e3, fun x xs hx => ?_⟩
        · rw [List.length_append, e2, RepC.len H hc, Nat.add_mul]; omega
        · have := RepL.cons hc (e4 x xs hx)
          simpa [List.append_assoc] using this

theorem frzs_nodup {ns : List Nat} {all : List Nat} {fs : List (Nat × Ob)} (h : frzs C ob all ns = some fs) {m : Nat} (hm : m ∉ ns) : look fs m = none := by
  cases hl : look fs m with
  | none => rfl
  | some o => exact absurd (frzs_look h hl).1 hm

theorem store_arr (H : COK C) (h : SimB C w0 ok0 ρ s β a w) (hpc : pcOK C.G ρ pc = true) (hob : ∀ m o, ob m = some o → obsOf s pc m = some o) {o : Oper} {t m e ver : Nat} {i c xd el : Ex} {p ns : List Nat} {fs : List (Nat × Ob)} {x y : Operand} {xv : SV} {r : Ex} (ho : o.op = .store t x y)
    (hx : RepSV C ρ β w (okk C w0 ok0 ρ s β w) (.eptr m ver i p t) (a.eval x)) (hy : RepSV C ρ β w (okk C w0 ok0 ρ s β w) xv (a.eval y)) (hm : ob m = some (.arr e c ver)) (hp : projD C (.bin .idx c i) e p = some (r, t))
    (hd : toD C ob depth (C.kd t) xv = some (xd, ns)) (hns : m ∉ ns) (hu : updD C (.bin .idx c i) e p xd = some el) (hf : frzs C ob ns ns = some fs) {l : List Pre} : Good C w0 ok0 ρ s pc o ⟨l, .junk, (m, .arr e (.tri .set c i el) ver) :: fs, []⟩ a w := by
  have hobR : ∀ m o, ob m = some o → RepOb C w0 ρ β w (okk C w0 ok0 ρ s β w) m o := fun m o hm => by
    obtain ⟨q, g1, g2⟩ := obsOf_some (hob m o hm)
    exact h.ob m q o g1 (subPC_ok g2 hpc)
  have hX := (toD_all H hobR depth).2.1 _ _ _ _ _ hd hy
  obtain ⟨q, h1, h2⟩ := obsOf_some (hob m _ hm)
  have hq := subPC_ok h2 hpc
  obtain ⟨h', ho2⟩ := h.freeze H hpc hob hf
  have h1' : look (putOb pc fs s.ob) m = some (q, .arr e c ver) := by rw [look_putOb, frzs_nodup hf hns]; exact h1
  generalize hS : ({ s with ob := putOb pc fs s.ob } : S) = s' at h' ho2
  have h1'' : look s'.ob m = some (q, .arr e c ver) := by rw [← hS]; exact h1'
  obtain ⟨g1, g2, L, cs, g3, g4, g5, g6⟩ := h'.ob m q _ h1'' hq
  have hs := h'.below.size
  obtain ⟨off, b, ln, cp, e1, e2, e3, e4, e5⟩ := hx
  rw [g1] at e1 e5
  have ht := offP_inTab H p g2 e1
  have hb0 : (β.vl m ver).ownBlock = some b := by rw [e2]; rfl
  have hrng := h'.rng m q _ b h1'' hq rfl (Blk_arr.2 hb0)
  rw [e2] at g6
  obtain ⟨_, hnil | ⟨g, cap, cur, q1, q2, q3, q4, q5, q6, q7⟩⟩ := id g6
  · simp at hnil
  simp only [Value.slice.injEq, Option.some.injEq, Addr.mk.injEq, and_true] at q1
  obtain ⟨⟨rfl, _⟩, rfl, rfl⟩ := q1
  -- the element
  have hi : (i.ev C.G ρ).asI.toNat < L.length := by omega
  obtain ⟨d, hd1⟩ : ∃ d, L[(i.ev C.G ρ).asI.toNat]? = some d := ⟨_, List.getElem?_eq_getElem hi⟩
  obtain ⟨pre, c1, post, r1, r2, r3, r4⟩ := RepL.set H g4 hd1
  obtain ⟨xs, x1, x2⟩ := hX
  have x1' := x1.keep (ok' := okk C w0 ok0 ρ s' β w) ho2 fun _ _ => rfl
  have hat : (Ex.bin .idx c i).ev C.G ρ = d := by simp only [Ex.ev, U2.ev, g3, D.asL]; exact at_get hd1
  obtain ⟨p2, c2, q2', u1, u2, u3, u4⟩ := updD_ok H p hu (by rw [hat]; exact r3) e1 g2 x1'
  have hR := r4 _ _ u4
  have hxl : xs.length = C.tsz t := by rw [RepC.len H x1, kd_size H ht]
  have hcur : cur.toList = pre ++ p2 ++ c2 ++ (q2' ++ post ++ cur.toList.drop (L.length * C.tsz e)) := by
    refine (List.take_append_drop (L.length * C.tsz e) cur.toList).symm.trans ?_
    rw [q7, r1, u1]
    simp only [List.append_assoc]
  have hheap : w.heap[b]? = some (.cells ((pre ++ p2) ++ c2 ++ (q2' ++ post ++ cur.toList.drop (L.length * C.tsz e))).toArray e (0, 0)) := by
    rw [q3, ← hcur, Array.toArray_toList]
  have hpl : (pre ++ p2).length = (i.ev C.G ρ).asI.toNat * C.tsz e + off := by rw [List.length_append, r2, u2, kd_size H g2]
  obtain ⟨i1, i2, i3, i4, i5, i6⟩ := setCells_row b e xs _ w (pre ++ p2) c2 _ hheap hpl u3
  have hcells : (wrap (C.kd t) xs).cells = xs.toArray := RepC.cells H x1
  have hrun := store_run (w := w) (b := b) (o := (i.ev C.G ρ).asI.toNat * C.tsz e + off) H ht hxl x1.one hcells (by rw [← hpl, ← u3]; exact there_of hheap)
  have hsim : SimB C w0 ok0 ρ (s.upd pc ((m, .arr e (.tri .set c i el) ver) :: fs)) β a (w.setCells b ((i.ev C.G ρ).asI.toNat * C.tsz e + off) xs) := by
    have key := h'.up1 (m := m) (pc := pc) (o := .arr e (.tri .set c i el) ver) (β' := β) (w' := w.setCells b ((i.ev C.G ρ).asI.toNat * C.tsz e + off) xs) hpc (h'.below.trans (Below.setCells i4 i5 i6 i3 hrng.1 i2)) (by omega) (fun b' => b' = b)
      ?_ ?_ ?_ (fun _ _ _ _ _ hv => hv) (fun _ _ _ _ _ _ hv => hv) (fun _ _ _ _ _ => rfl) ?_
    · rw [← hS] at key
      exact key
    · rintro b' rfl
      exact ⟨⟨m, q, _, h1'', hq, rfl, Blk_arr.2 hb0⟩, fun n q' o' hn hq' hm' hb' => h'.sep n m q' q o' _ _ hn h1'' hq' hq hm' rfl hb' (Blk_arr.2 hb0)⟩
    · intro b' hb hne
      exact i2 b' fun e => hne (by rw [e])
    · intro b' _ hb
      rw [Blk_arr, hb0, Option.some.injEq] at hb
      subst hb
      exact ⟨.inl rfl, by omega⟩
    · intro ok' hok
      refine ⟨g1, g2, L.set (i.ev C.G ρ).asI.toNat (el.ev C.G ρ), pre ++ (p2 ++ xs ++ q2') ++ post, ?_, hR.keep hok fun b' hb => i2 b' ?_, by simpa using g5, ?_⟩
      · simp only [Ex.ev, U3.ev, g3, D.asL]
      · rintro rfl
        exact okk_mut h' hb ⟨m, q, _, h1'', hq, rfl, Blk_arr.2 hb0⟩
      · rw [e2]
        have hlen : (pre ++ (p2 ++ xs ++ q2') ++ post).length = cs.length := by rw [r1, u1]; simp [u3]
        have hcl := g6.1
        refine ⟨by rw [hlen, hcl, List.length_set], .inr ⟨b, cp, _, by rw [List.length_set], q2, i1, by simpa using q4, q5, ?_, ?_⟩⟩
        · have := congrArg List.length hcur
          simp only [List.length_append, Array.length_toList] at this
          simp only [List.size_toArray, List.length_append, ← q6]
          omega
        · rw [List.length_set, ← hcl, ← hlen]
          generalize cur.toList.drop _ = R
          have : ((pre ++ p2) ++ xs ++ (q2' ++ post ++ R)).toArray.toList = (pre ++ (p2 ++ xs ++ q2') ++ post) ++ R := by simp [List.append_assoc]
          rw [this]
          exact List.take_left
  refine Good.unit (r := ⟨l, .junk, (m, .arr e (.tri .set c i el) ver) :: fs, []⟩) ?_ hsim rfl
  simp [execOp, ho, e5, x2, hrun]
end
end Sy

/- Appending; slicing. -/
namespace Sy
open Go Go.RowKit

/-- What is appended: no cells at all, or cells at an address. -/
def SrcAt (w : World) (x : Value) (m : Nat) (news : List Value) : Prop := (m = 0 ∧ news = [] ∧ ∃ c, x = .slice none 0 c) ∨ ∃ a c, x = .slice (some a) m c ∧ ∀ j u, news[j]? = some u → w.cell? (a.add j) = some u

theorem run_append_any {P : Program} (w : World) (base : Nat) (t ty e : TypeId) (i : TypeInfo) (z : Value) (size bytes : Nat) (ht : P.underlying t = some (.slice e)) (hi : P.info? e = some i) (hz : i.zero = some z)
    (hsize : i.size = size) (hby : i.bytes = bytes) (hzs : z.cells.size = size) (hsz : 0 < size)
    (v : Value) (n : Nat) (xs : List Value) (hown : w.ownsRow base e size v n xs)
    (x : Value) (m : Nat) (news : List Value) (hl : news.length = m * size) (hsrc : SrcAt w x m news) (h1 : ∀ u ∈ news, u.oneCell' = true)
    (h63 : n + m ≤ maxLen) (hbytes : (n + m) * bytes ≤ 140737488355328) (hbase : base ≤ w.heap.size) :
    ∃ v' w', (Builtin.append_ #[t, t] ty #[v, x]).run P w = .ok v' w' ∧ w'.ownsRow base e size v' (n + m) (xs ++ news) ∧ w.grownBy w' v.ownBlock ∧ (∀ g, v'.ownBlock = some g → v.ownBlock = some g ∨ w.heap.size ≤ g) := by
  rcases hsrc with ⟨rfl, rfl, c, rfl⟩ | ⟨a, c, rfl, hnews⟩
  · refine ⟨v, w, ?_, by simpa using hown, ⟨rfl, rfl, rfl, Nat.le_refl _, fun _ _ _ => rfl⟩, fun g hg => .inl hg⟩
    rcases hown.2 with ⟨rfl, rfl⟩ | ⟨g, cap, cur, rfl, _, _, hnc, _⟩
    · simp [Builtin.append_, run_underlying ht, Go.sizeOf, typeInfo, hi, Builtin.lenOf, Builtin.firstCells]
    · simp [Builtin.append_, run_underlying ht, Go.sizeOf, typeInfo, hi, Builtin.lenOf, Builtin.firstCells, hnc, storeCells]
  · obtain ⟨v', w', hr, hO, hG, hN⟩ := run_append_own (P := P) w base t ty e i z size bytes ht hi hz hsize hby hzs hsz v n xs hown a m c news hl hnews h1 h63 hbytes hbase
    refine ⟨v', w', hr, hO, hG, ?_⟩
    have h63' : ((n + m : Nat) : Int) ≤ 9223372036854775807 := by simp only [maxLen] at h63; omega
    rcases hown.2 with ⟨rfl, rfl⟩ | ⟨g, cap, cur, rfl, _, hg, hnc, hcm, hcs, _⟩
    · intro g hg
      by_cases hm : m = 0
      · subst hm
        have : v' = .slice none 0 0 := hN.2 ⟨rfl, rfl⟩
        rw [this] at hg
        simp [Value.ownBlock] at hg
      · have hr' := run_append_nil (P := P) w t ty e i z ht hi hz a m c news (by rw [hl, hsize]) hnews (by omega) (by omega) (by rw [hby]; simp only [Nat.zero_add] at hbytes; omega)
        rw [hr] at hr'
        simp only [Result.ok.injEq] at hr'
        rw [hr'.1] at hg
        simp only [Value.ownBlock, Option.some.injEq] at hg
        omega
    · by_cases hroom : n + m ≤ cap
      · obtain ⟨w2, hr', _⟩ := run_append_fits (P := P) w base t ty e i size ht hi hsize g n cap xs hown a m c news hl hnews h1 hroom
        rw [hr] at hr'
        simp only [Result.ok.injEq] at hr'
        rw [hr'.1]
        intro g' hg'
        exact .inl hg'
      · have hr' := run_append_grow (P := P) w t ty e i z ht hi hz ⟨g, 0, none⟩ n cap xs (by rw [hown.1, hsize]) (hown.cells (g := g) rfl) a m c news (by rw [hl, hsize]) hnews (by omega) h63' (by rw [hby]; exact growslice_fits (by omega) hbytes)
        rw [hr] at hr'
        simp only [Result.ok.injEq] at hr'
        rw [hr'.1]
        intro g' hg'
        simp only [Value.ownBlock, Option.some.injEq] at hg'
        omega

section
variable {C : Ctx} {w0 : World} {ok0 : Nat → Prop} {ρ : List D} {s : S} {β : Be} {a : Act} {w : World} {pc : PC} {ob : Obs}

theorem src_ok (H : COK C) (hob : ∀ m o, ob m = some o → RepOb C w0 ρ β w ok0 m o) {e : Nat} {v : SV} {c : Ex} {x : Value} (h : srcOf C ob e v = some c) (hx : RepSV C ρ β w ok0 v x) :
    ∃ l cs, c.ev C.G ρ = .list l ∧ RepL C w ok0 (C.kd e) l cs ∧ SrcAt w x l.length cs := by
  have nilc : ∀ {c : Nat}, x = .slice none 0 c → ∃ l cs, Ex.lnil.ev C.G ρ = .list l ∧ RepL C w ok0 (C.kd e) l cs ∧ SrcAt w x l.length cs := fun hc => ⟨[], [], rfl, .nil, .inl ⟨rfl, rfl, _, hc⟩⟩
  have arr : ∀ {m e' ver : Nat} {c : Ex}, RepOb C w0 ρ β w ok0 m (.arr e' c ver) → e = e' → x = β.vl m ver → ∃ l cs, c.ev C.G ρ = .list l ∧ RepL C w ok0 (C.kd e) l cs ∧ SrcAt w x l.length cs := by
    rintro m e' ver c ⟨g1, g2, l, cs, g3, g4, g5, g6⟩ rfl rfl
    refine ⟨l, cs, g3, g4, ?_⟩
    rcases g6.2 with ⟨h1, h2⟩ | ⟨g, cap, cur, h1, h2⟩
    · have : l = [] := List.eq_nil_of_length_eq_zero h2
      subst this
      cases g4
      exact .inl ⟨rfl, rfl, 0, h1⟩
    · exact .inr ⟨_, _, h1, g6.cells (by rw [h1]; rfl)⟩
  have dat : ∀ {c : Ex}, RepV C w ok0 (.slice e) (c.ev C.G ρ) x → ∃ l cs, c.ev C.G ρ = .list l ∧ RepL C w ok0 (C.kd e) l cs ∧ SrcAt w x l.length cs := by
    rintro c ⟨cs, hc, rfl⟩
    generalize c.ev C.G ρ = d at hc
    cases hc with
    | nils =>
      rename_i a' cap
      refine ⟨[], [], rfl, .nil, ?_⟩
      cases a' with
      | none => exact .inl ⟨rfl, rfl, _, rfl⟩
      | some a' => exact .inr ⟨_, _, rfl, by simp⟩
    | slice h0 hb hm hcap hc hl hr => exact ⟨_, _, rfl, hl, .inr ⟨_, _, rfl, fun j u hu => by rw [Addr.add_mid]; exact hr j u hu⟩⟩
  cases v with
  | dat k y =>
    simp only [srcOf] at h
    split at h
    · rename_i hk
      subst hk
      simp only [Option.some.injEq] at h
      subst h
      exact dat hx
    · simp at h
  | nils e' =>
    simp only [srcOf] at h
    split at h
    · simp only [Option.some.injEq] at h
      subst h
      exact nilc hx
    · simp at h
  | nil0 =>
    simp only [srcOf, Option.some.injEq] at h
    subst h
    exact nilc hx
  | sli m ver e' =>
    simp only [srcOf] at h
    cases hm : ob m with
    | none => simp [hm] at h
    | some o =>
      have R := hob m o hm
      cases o with
      | arr e'' c' ver' =>
        simp only [hm] at h
        split at h
        · rename_i hc
          simp only [Option.some.injEq] at h
          subst h
          obtain ⟨rfl, rfl, rfl⟩ := hc
          exact arr R rfl hx.1
        · simp at h
      | farr e'' c' ver' =>
        simp only [hm] at h
        split at h
        · rename_i hc
          simp only [Option.some.injEq] at h
          subst h
          obtain ⟨rfl, rfl, rfl⟩ := hc
          exact dat (by rw [hx.1]; exact R.2.2.1)
        · simp at h
      | narr _ _ _ _ _ _ => simp [hm] at h
      | box _ _ => simp [hm] at h
      | fbox _ _ => simp [hm] at h
  | _ => simp [srcOf] at h

theorem appC_ev (G : Nat → D) (c x : Ex) {l : List D} (hc : (c.ev G ρ) = .list l) {l2 : List D} (hx : x.ev G ρ = .list l2) : (appC c x).ev G ρ = .list (l ++ l2) := by
  unfold appC
  split
  · simp only [Ex.ev, U2.ev, D.asL, D.list.injEq] at hx ⊢
    rw [hc, ← hx]
  · simp only [Ex.ev, U2.ev, D.asL, hc, hx]

theorem RepL.append {ok : Nat → Prop} {k : K} {l l2 : List D} {cs c2 : List Value} (h : RepL C w ok k l cs) (h2 : RepL C w ok k l2 c2) : RepL C w ok k (l ++ l2) (cs ++ c2) := by
  induction l generalizing cs with
  | nil => cases h; exact h2
  | cons y l ih =>
    cases h with
    | cons hc hl =>
      rw [List.append_assoc]
      exact .cons hc (ih hl)

theorem RepOb.otherV {β' : Be} {ok : Nat → Prop} {m vr n : Nat} {o : Ob} (hb : Be.agreeV m vr β β') (hn : n ≠ m) (hf : o.freeV m vr = true) (h : RepOb C w0 ρ β w ok n o) : RepOb C w0 ρ β' w ok n o := by
  obtain ⟨h1, h2, h3⟩ := hb
  cases o with
  | box t v =>
    obtain ⟨g1, g2, cs, E, g3, g4⟩ := h
    exact ⟨by rw [h2]; exact g1, g2, cs, E, by rw [h1]; exact g3, RepSc.otherV ⟨h1, h2, h3⟩ hf g4⟩
  | arr e c ver =>
    obtain ⟨g1, g2, l, cs, g3, g4, g5, g6⟩ := h
    exact ⟨by rw [h2]; exact g1, g2, l, cs, g3, g4, g5, by rw [h3 _ _ (.inl hn)]; exact g6⟩
  | fbox t c =>
    obtain ⟨g1, g2, g3, cs, g4, g5⟩ := h
    exact ⟨by rw [h2]; exact g1, g2, by rw [h1]; exact g3, cs, g4, by rw [h1]; exact g5⟩
  | farr e c ver =>
    obtain ⟨g1, g2, g3, g4⟩ := h
    exact ⟨by rw [h2]; exact g1, g2, by rw [h3 _ _ (.inl hn)]; exact g3, by rw [h3 _ _ (.inl hn)]; exact g4⟩
  | narr e f c ver rv hole =>
    obtain ⟨g1, g2, l, cs, rows, g3, g4, g5, g6, g7, g8, g9, g10⟩ := h
    exact ⟨by rw [h2]; exact g1, g2, l, cs, rows, g3, g4, by rw [h3 _ _ (.inl hn)]; exact g5, by rw [h3 _ _ (.inl hn)]; exact g6, g7, g8, g9, by rw [h3 _ _ (.inl hn)]; exact g10⟩
theorem blkOf_otherV {β' : Be} {m vr n : Nat} {o : Ob} (hb : Be.agreeV m vr β β') (hn : n ≠ m) : blkOf β' n o = blkOf β n o := by
  obtain ⟨h1, h2, h3⟩ := hb
  cases o <;> simp [blkOf, h1, h3 _ _ (.inl hn)]
theorem Blk_otherV {β' : Be} {m vr n : Nat} {o : Ob} (hb : Be.agreeV m vr β β') (hn : n ≠ m) : Blk β' n o = Blk β n o := by
  have h1 := blkOf_otherV (o := o) hb hn
  obtain ⟨_, _, h3⟩ := hb
  funext b
  unfold Blk
  rw [h1]
  cases o <;> simp [hidB, h3 _ _ (.inl hn)]

theorem resolve_append {o : Oper} {x y : Operand} {t t' : Nat} (ho : o.op = .call { callee := .builtin .append, args := #[x, y], argTypes := #[t, t'] }) {v : Value} {w' : World} (hr : (Builtin.append_ #[t, t'] o.type #[a.eval x, a.eval y]).run C.P w = .ok v w') :
    (execOp a.eval o).run C.P w = .ok (.value v) w' := by
  unfold execOp
  simp only [ho, resolve, invoke, builtin, Sem.run_bind, Sem.run_pure, Result.andThen_ok, List.map_toArray, List.map_cons, List.map_nil, hr]

theorem app_new (H : COK C) (h : SimB C w0 ok0 ρ s β a w) (hpc : pcOK C.G ρ pc = true) (hob : ∀ m o, ob m = some o → obsOf s pc m = some o) {o : Oper} {t m e : Nat} {x y : Operand} {xv : SV} {cx : Ex} (ho : o.op = .call { callee := .builtin .append, args := #[x, y], argTypes := #[t, t] })
    (hk : C.kd t = .slice e) (hz : (C.zeroV e).isSome = true) (hx : a.eval x = .slice none 0 0) (hy : RepSV C ρ β w (okk C w0 ok0 ρ s β w) xv (a.eval y)) (hsrc : srcOf C ob e xv = some cx) (hfit : (Ex.bin (.fits maxN) (.int 0) (.un .len cx)).ev C.G ρ = .bool true)
    (hu : upOK s pc (m, .arr e cx 0) = true) (hn : look s.ob m = none) {l : List Pre} : Good C w0 ok0 ρ s pc o ⟨l, .sli m 0 e, [(m, .arr e cx 0)], [m]⟩ a w := by
  have hobR : ∀ m o, ob m = some o → RepOb C w0 ρ β w (okk C w0 ok0 ρ s β w) m o := fun m o hm => by
    obtain ⟨q, g1, g2⟩ := obsOf_some (hob m o hm)
    exact h.ob m q o g1 (subPC_ok g2 hpc)
  obtain ⟨L, cs, e1, e2, e3⟩ := src_ok H hobR hsrc hy
  obtain ⟨hu1, he, _⟩ := slice_fact H hk
  obtain ⟨i, hi, hsz, hby⟩ := info_fact H he
  obtain ⟨v, hv⟩ := Option.isSome_iff_exists.1 hz
  obtain ⟨i', z, hi', hz', hzc⟩ := zeroV_ok (ρ := ρ) (β := β) (w := w) (ok := okk C w0 ok0 ρ s β w) H hv
  rw [hi] at hi'
  simp only [Option.some.injEq] at hi'
  subst hi'
  have hzl : z.cells.size = C.tsz e := by rw [← Array.length_toList, RepSc.repC_len H he hzc]
  simp only [Ex.ev, U2.ev, U1.ev, e1, D.asI, D.asL, D.bool.injEq, decide_eq_true_eq] at hfit
  have hL : L.length ≤ maxN := by omega
  have hcl : cs.length = L.length * C.tsz e := by rw [RepL.len H e2, kd_size H he]
  obtain ⟨v', w', r1, r2, r3, r4⟩ := run_append_any (P := C.P) w w.heap.size t o.type e i z (C.tsz e) i.bytes hu1 hi hz' hsz rfl hzl (tsz_pos H he) (.slice none 0 0) 0 [] (World.ownsRow_nil ..) (a.eval y) L.length cs hcl e3 e2.one
    (by unfold maxN at hL; simp only [maxLen]; omega) (by unfold maxN at hL; have := Nat.mul_le_mul hL hby; simp only [Nat.zero_add]; omega) (Nat.le_refl _)
  obtain ⟨f1, f2, _⟩ := upOK_new hu hn
  have hbel : Below w.heap.size w w' := ⟨r3.os, r3.tape, r3.output, r3.size, fun k hk => r3.block k hk (by simp [Value.ownBlock])⟩
  rw [Nat.zero_add, List.nil_append] at r2
  obtain ⟨β', k1, k2⟩ := row_new h hpc f1 f2 he e1 hL hbel (fun ok' hok => e2.keep hok fun b hb => hbel.block b (okk_size h.below.size hb)) r2
  exact Good.value (r := ⟨l, .sli m 0 e, [(m, .arr e cx 0)], [m]⟩) (resolve_append ho (by rw [hx]; exact r1)) k1 (k2 _)

theorem app_old (H : COK C) (h : SimB C w0 ok0 ρ s β a w) (hpc : pcOK C.G ρ pc = true) (hob : ∀ m o, ob m = some o → obsOf s pc m = some o) {o : Oper} {t m e ver : Nat} {x y : Operand} {xv : SV} {c cx : Ex} (ho : o.op = .call { callee := .builtin .append, args := #[x, y], argTypes := #[t, t] })
    (hk : C.kd t = .slice e) (hz : (C.zeroV e).isSome = true) (hx : RepSV C ρ β w (okk C w0 ok0 ρ s β w) (.sli m ver e) (a.eval x)) (hm : ob m = some (.arr e c ver)) (hy : RepSV C ρ β w (okk C w0 ok0 ρ s β w) xv (a.eval y)) (hsrc : srcOf C ob e xv = some cx)
    (hfit : (Ex.bin (.fits maxN) (.un .len c) (.un .len cx)).ev C.G ρ = .bool true)
    (hu : upOK s pc (m, .arr e (appC c cx) (ver + 1)) = true) {l : List Pre} : Good C w0 ok0 ρ s pc o ⟨l, .sli m (ver + 1) e, [(m, .arr e (appC c cx) (ver + 1))], []⟩ a w := by
  have hobR : ∀ m o, ob m = some o → RepOb C w0 ρ β w (okk C w0 ok0 ρ s β w) m o := fun m o hm => by
    obtain ⟨q, g1, g2⟩ := obsOf_some (hob m o hm)
    exact h.ob m q o g1 (subPC_ok g2 hpc)
  obtain ⟨L, cs, e1, e2, e3⟩ := src_ok H hobR hsrc hy
  obtain ⟨hu1, he, _⟩ := slice_fact H hk
  obtain ⟨i, hi, hsz, hby⟩ := info_fact H he
  obtain ⟨v, hv⟩ := Option.isSome_iff_exists.1 hz
  obtain ⟨i', z, hi', hz', hzc⟩ := zeroV_ok (ρ := ρ) (β := β) (w := w) (ok := okk C w0 ok0 ρ s β w) H hv
  rw [hi] at hi'
  simp only [Option.some.injEq] at hi'
  subst hi'
  have hzl : z.cells.size = C.tsz e := by rw [← Array.length_toList, RepSc.repC_len H he hzc]
  obtain ⟨q, h1, h2⟩ := obsOf_some (hob m _ hm)
  have hq := subPC_ok h2 hpc
  obtain ⟨g1, g2, L0, cs0, g3, g4, g5, g6⟩ := h.ob m q _ h1 hq
  simp only [Ex.ev, U2.ev, U1.ev, e1, g3, D.asI, D.asL, D.bool.injEq, decide_eq_true_eq] at hfit
  have hL : L0.length + L.length ≤ maxN := by omega
  have hcl : cs.length = L.length * C.tsz e := by rw [RepL.len H e2, kd_size H he]
  have hs := h.below.size
  obtain ⟨v', w', r1, r2, r3, r4⟩ := run_append_any (P := C.P) w w0.heap.size t o.type e i z (C.tsz e) i.bytes hu1 hi hz' hsz rfl hzl (tsz_pos H he) (β.vl m ver) L0.length cs0 g6 (a.eval y) L.length cs hcl e3 e2.one
    (by unfold maxN at hL; simp only [maxLen]; omega) (by unfold maxN at hL; have := Nat.mul_le_mul hL hby; omega) hs
  -- the new version
  have hver : slFreeV m (ver + 1) s.sl = true ∧ obFreeV m (ver + 1) s.ob = true := by
    have h3 := hu
    unfold upOK at h3
    simp only [h1, Bool.and_eq_true, Bool.or_eq_true, decide_eq_true_eq] at h3
    rcases h3.2 with h4 | h4
    · omega
    · exact ⟨h4.1.2, h4.2⟩
  let β' : Be := { bk := β.bk, vl := fun n v => if n = m ∧ v = ver + 1 then v' else β.vl n v, ty := β.ty }
  have hag : Be.agreeV m (ver + 1) β β' := ⟨rfl, rfl, fun n v hnv => by
    show (if n = m ∧ v = ver + 1 then v' else β.vl n v) = _
    rw [if_neg]
    rintro ⟨rfl, rfl⟩
    simp at hnv⟩
  have hvl : β'.vl m (ver + 1) = v' := by show (if m = m ∧ ver + 1 = ver + 1 then v' else _) = _; simp
  have hbb : ∀ g, (β.vl m ver).ownBlock = some g → Mut C ρ s β g ∧ ∀ n q o', look s.ob n = some (q, o') → pcOK C.G ρ q = true → o'.mut = true → Blk β n o' g → n = m := fun g hg =>
    ⟨⟨m, q, _, h1, hq, rfl, Blk_arr.2 hg⟩, fun n q' o' hn hq' hm' hb' => h.sep n m q' q o' _ _ hn h1 hq' hq hm' rfl hb' (Blk_arr.2 hg)⟩
  have hsim : SimB C w0 ok0 ρ (s.upd pc [(m, .arr e (appC c cx) (ver + 1))]) β' a w' := by
    refine h.up1 (o := .arr e (appC c cx) (ver + 1)) hpc (h.below.grown r3 hs fun k hk => (h.rng m q _ k h1 hq rfl (Blk_arr.2 hk)).1) r3.size (fun b => (β.vl m ver).ownBlock = some b) hbb ?_ ?_ ?_ ?_ ?_ ?_
    · intro b hb hne
      exact r3.block b hb fun e => hne e.symm
    · intro b _ hb
      rw [Blk_arr, hvl] at hb
      exact ⟨r4 b hb, (r2.lt b hb).2⟩
    · intro ok t' v0 x0 hl hv0
      exact RepSV.otherV hag (slFreeV_look hver.1 hl) hv0
    · intro ok n q' o' hn hl hv0
      exact RepOb.otherV hag hn (obFreeV_look hver.2 hl) hv0
    · intro n q' o' hn hl
      exact Blk_otherV hag hn
    · intro ok' hok
      have hkeep : ∀ b, okk C w0 ok0 ρ s β w b → w'.heap[b]? = w.heap[b]? := fun b hb => r3.block b (okk_size hs hb) fun e => okk_mut h hb (hbb b e.symm).1
      refine ⟨g1, g2, L0 ++ L, cs0 ++ cs, appC_ev C.G c cx g3 e1, RepL.append (g4.keep hok hkeep) (e2.keep hok hkeep), by simpa using hL, ?_⟩
      rw [hvl, List.length_append]
      exact r2
  refine Good.value (r := ⟨l, .sli m (ver + 1) e, [(m, .arr e (appC c cx) (ver + 1))], []⟩) (resolve_append ho (by rw [hx.1]; exact r1)) hsim ?_
  obtain ⟨a', c', hv'⟩ := ownsRow_slice r2
  refine ⟨hvl.symm, ?_⟩
  rw [hvl]
  exact ⟨_, _, _, hv'⟩
end
end Sy

/- Slicing; structs, arrays and rows out of their parts. -/
namespace Sy
open Go Go.RowKit

/-! ### Filling -/
theorem fold_set : ∀ (vs : List Value) (k off : Nat) (pre mid post : List Value), mid.length = vs.length → pre.length = off + k →
    (vs.zipIdx k).foldl (fun (cs : Array Value) x => cs.setIfInBounds (off + x.2) x.1) (pre ++ mid ++ post).toArray = (pre ++ vs ++ post).toArray
  | [], k, off, pre, mid, post, hm, _ => by
    obtain rfl : mid = [] := List.eq_nil_of_length_eq_zero (by simpa using hm)
    rfl
  | v :: vs, k, off, pre, mid, post, hm, hp => by
    cases mid with
    | nil => simp at hm
    | cons m mid =>
      simp only [List.zipIdx_cons, List.foldl_cons]
      have h1 : (pre ++ m :: mid ++ post).toArray.setIfInBounds (off + k) v = ((pre ++ [v]) ++ mid ++ post).toArray := by
        apply Array.ext'
        simp [← hp]
      rw [h1, fold_set vs (k + 1) off (pre ++ [v]) mid post (by simpa using hm) (by simp [hp]; omega)]
      simp [List.append_assoc]

theorem fill_step {place : Nat → Option (Nat × Nat)} {pre mid post : List Value} {i : Nat} {v : Value} {rest : List (Nat × Value)} (hp : place i = some (pre.length, mid.length)) (hv : v.cells.size = mid.length) :
    Instr.fill place (pre ++ mid ++ post).toArray ((i, v) :: rest) = Instr.fill place (pre ++ v.cells.toList ++ post).toArray rest := by
  rw [Instr.fill]
  simp only [hp, hv]
  have hc : ¬ ((mid.length ≠ mid.length || decide (pre.length + mid.length > (pre ++ mid ++ post).toArray.size)) = true) := by
    simp only [List.size_toArray, List.length_append, Bool.or_eq_true, decide_eq_true_eq]
    omega
  rw [if_neg hc]
  congr 1
  rw [← Array.foldl_toList, Array.toList_zipIdx]
  exact fold_set _ 0 _ pre mid post (by simp [hv]) (by simp)

def fillL : List (List Value) → List (Nat × Value) → List (List Value)
  | S, [] => S
  | S, (i, v) :: r => fillL (S.set i v.cells.toList) r
theorem fillL_length : ∀ (parts : List (Nat × Value)) (S : List (List Value)), (fillL S parts).length = S.length
  | [], _ => rfl
  | (i, v) :: r, S => by rw [fillL, fillL_length]; simp
theorem flatten_len {sz : Nat} : ∀ {S : List (List Value)}, (∀ g ∈ S, g.length = sz) → S.flatten.length = S.length * sz
  | [], _ => by simp
  | g :: S, h => by
    rw [List.flatten_cons, List.length_append, flatten_len (S := S) fun g hg => h g (List.mem_cons_of_mem _ hg), h g (List.mem_cons_self ..), List.length_cons, Nat.add_mul]
    omega
theorem fill_rows {sz : Nat} : ∀ (parts : List (Nat × Value)) (S : List (List Value)), (∀ g ∈ S, g.length = sz) → (∀ p ∈ parts, p.1 < S.length ∧ p.2.cells.size = sz) →
    Instr.fill (fun i => some (i * sz, sz)) S.flatten.toArray parts = some (fillL S parts).flatten.toArray ∧ ∀ g ∈ fillL S parts, g.length = sz
  | [], S, h, _ => ⟨rfl, h⟩
  | (i, v) :: r, S, h, hp => by
    obtain ⟨h1, h2⟩ := hp (i, v) (List.mem_cons_self ..)
    simp only at h1 h2
    have hS : S = S.take i ++ S[i] :: S.drop (i + 1) := by rw [← List.drop_eq_getElem_cons h1, List.take_append_drop]
    have hset : S.set i v.cells.toList = S.take i ++ v.cells.toList :: S.drop (i + 1) := List.set_eq_take_append_cons_drop .. |>.trans (if_pos h1)
    have hg : S[i].length = sz := h _ (List.getElem_mem h1)
    have hpl : (S.take i).flatten.length = i * sz := by rw [flatten_len fun g hg => h g (List.mem_of_mem_take hg), List.length_take, Nat.min_eq_left (by omega)]
    have ih := fill_rows r (S.set i v.cells.toList) (by
      intro g hg
      rcases List.mem_or_eq_of_mem_set hg with hg | rfl
      · exact h g hg
      · simp [h2]) (fun p hp' => by simpa using hp p (List.mem_cons_of_mem _ hp'))
    refine ⟨?_, ih.2⟩
    rw [fillL]
    rw [← ih.1]
    have e1 : S.flatten = (S.take i).flatten ++ S[i] ++ (S.drop (i + 1)).flatten := by
      conv => lhs; rw [hS]
      simp only [List.flatten_append, List.flatten_cons, List.append_assoc]
    have e2 : (S.set i v.cells.toList).flatten = (S.take i).flatten ++ v.cells.toList ++ (S.drop (i + 1)).flatten := by
      rw [hset]; simp
    rw [e1, e2]
    exact fill_step (by rw [hpl, hg]) (by rw [h2, hg])
theorem not_mem_look {α : Type} : ∀ {l : List (Nat × α)} {n : Nat}, n ∉ l.map (·.1) → look l n = none
  | [], _, _ => rfl
  | (i, x) :: l, n, h => by
    simp only [List.map_cons, List.mem_cons, not_or] at h
    simp only [look, if_neg (Ne.symm h.1)]
    exact not_mem_look h.2
theorem fillL_get : ∀ (parts : List (Nat × Value)) (S : List (List Value)) {i : Nat}, nodupB (parts.map (·.1)) = true → i < S.length → (fillL S parts)[i]? = match look parts i with | some v => some v.cells.toList | none => S[i]?
  | [], S, i, _, _ => rfl
  | (j, v) :: r, S, i, hn, hi => by
    simp only [List.map_cons, nodupB, Bool.and_eq_true, Bool.not_eq_true', List.contains_eq_mem, decide_eq_false_iff_not] at hn
    rw [fillL, fillL_get r _ hn.2 (by simpa using hi)]
    simp only [look]
    by_cases hj : j = i
    · subst hj
      rw [not_mem_look hn.1]
      simp [hi]
    · rw [if_neg hj]
      cases look r i with
      | some u => rfl
      | none => simp only [List.getElem?_set_ne hj]

section
variable {C : Ctx} {w0 : World} {ok0 : Nat → Prop} {ρ : List D} {s : S} {β : Be} {a : Act} {w : World} {pc : PC} {ob : Obs}

theorem frzs_mem {all : List Nat} : ∀ {ns : List Nat} {fs : List (Nat × Ob)}, frzs C ob all ns = some fs → ∀ x ∈ fs, (ob x.1).isSome = true ∧ ∀ m, x.2.free m = true
  | [], fs, h, x, hx => by simp only [frzs, Option.some.injEq] at h; subst h; simp at hx
  | n :: ns, fs, h, x, hx => by
    simp only [frzs] at h
    cases h1 : frz C ob all n with
    | none => simp [h1] at h
    | some y =>
      cases h2 : frzs C ob all ns with
      | none => simp [h1, h2] at h
      | some r =>
        simp only [h1, h2, Option.some.injEq] at h
        subst h
        rcases List.mem_cons.1 hx with rfl | hx
        · obtain ⟨i, o'⟩ := x
          obtain ⟨rfl, f2, o, f3, _⟩ := frz_fact h1
          exact ⟨by rw [f3]; rfl, fun m => by cases o' <;> first | rfl | simp [Ob.mut] at f2⟩
        · exact frzs_mem h2 x hx
theorem obFree_put {m : Nat} {pc : PC} : ∀ {fs : List (Nat × Ob)} {l : List (Nat × PC × Ob)}, (∀ x ∈ fs, x.1 ≠ m ∧ x.2.free m = true) → obFree m l = true → obFree m (putOb pc fs l) = true
  | [], l, _, h => h
  | (i, o) :: fs, l, hx, h => by
    have h1 := hx (i, o) (List.mem_cons_self ..)
    simp only at h1
    have h2 := obFree_put (pc := pc) (fun x hx' => hx x (List.mem_cons_of_mem _ hx')) h
    show (decide (i ≠ m) && o.free m && obFree m (putOb pc fs l)) = true
    simp [h1.1, h1.2, h2]

/-! ### Slicing -/
theorem RepL.dropTake (H : COK C) {ok : Nat → Prop} {k : K} : ∀ {l : List D} {cs : List Value} (n : Nat), RepL C w ok k l cs → RepL C w ok k (l.drop n) (cs.drop (n * C.ksz k)) ∧ RepL C w ok k (l.take n) (cs.take (n * C.ksz k))
  | l, cs, 0, h => by simpa using ⟨h, RepL.nil⟩
  | [], cs, n + 1, h => by cases h; simpa using RepL.nil
  | x :: l, cs, n + 1, h => by
    cases h with
    | cons hc hl =>
      rename_i c c'
      have ih := RepL.dropTake H n hl
      have hlen := RepC.len H hc
      have e : (n + 1) * C.ksz k = c.length + n * C.ksz k := by rw [hlen, Nat.add_mul]; omega
      refine ⟨?_, ?_⟩
      · have h2 : (c ++ c').drop (c.length + n * C.ksz k) = c'.drop (n * C.ksz k) := by
          rw [List.drop_append, List.drop_eq_nil_of_le (by omega), List.nil_append, Nat.add_sub_cancel_left]
        rw [e, h2]
        exact ih.1
      · have h2 : (c ++ c').take (c.length + n * C.ksz k) = c ++ c'.take (n * C.ksz k) := by
          rw [List.take_append, List.take_of_length_le (by omega), Nat.add_sub_cancel_left]
        rw [e, h2]
        exact .cons hc ih.2

/-- A bound of a slicing: left away, or an int. -/
def Bd (v : Option Value) (n dflt : Nat) : Prop := (v = none ∧ n = dflt) ∨ v = some (.int .i64 n)
theorem run_slice_opt {P : Program} {t e sz : Nat} (hu : P.underlying t = some (.slice e)) (hz : (Go.sizeOf e).run P w = .ok sz w) {lo hi : Option Value} {l h len cap : Nat} {ad : Option Addr} (hlo : Bd lo l 0) (hhi : Bd hi h len) (h1 : l ≤ h) (h2 : h ≤ len) (h3 : len ≤ cap) :
    (Instr.sliceAt t (.slice ad len cap) lo hi none).run P w = .ok (sliced ad l h cap sz) w := by
  have he : P.elem t = e := by simp [Program.elem, hu]
  have hu' : P.underlying t = some (.slice (P.elem t)) := by rw [he]; exact hu
  rw [run_sliceAt_slice w t _ _ _ _ hu']
  rcases hlo with ⟨rfl, rfl⟩ | rfl <;> rcases hhi with ⟨rfl, rfl⟩ | rfl
  · rw [run_slice_all w t ad _ cap hu', he, hz]; rfl
  · rw [run_slice_h w t ad len cap hu' .i64 (h : Int) (by omega) (by omega), he, hz]; simp
  · rw [run_slice_l w t ad _ cap hu' .i64 (l : Int) (by omega) (by omega), he, hz]; simp
  · rw [run_slice_lh w t ad len cap hu' .i64 .i64 (l : Int) (h : Int) (by omega) (by omega) (by omega), he, hz]; simp
theorem run_cut_opt {P : Program} {t : Nat} (hu : P.underlying t = some .string) {lo hi : Option Value} {l h : Nat} {s : ByteArray} (hlo : Bd lo l 0) (hhi : Bd hi h s.size) (h1 : l ≤ h) (h2 : h ≤ s.size) :
    (Instr.sliceAt t (.string s) lo hi none).run P w = .ok (.string (s.extract l h)) w := by
  rw [run_sliceAt_string w t _ _ _ _ hu]
  rcases hlo with ⟨rfl, rfl⟩ | rfl <;> rcases hhi with ⟨rfl, rfl⟩ | rfl
  · simp [Instr.slice, run_underlying hu, Instr.sliceBounds]
  · simp [Instr.slice, run_underlying hu, Instr.sliceBounds, run_sliceBound, h2]
  · simp [Instr.slice, run_underlying hu, Instr.sliceBounds, run_sliceBound, h1]
  · simp [Instr.slice, run_underlying hu, Instr.sliceBounds, run_sliceBound, h1, h2]

theorem slice_rep (H : COK C) {ok : Nat → Prop} {e : Nat} {L : List D} {x : Value} (hx : RepV C w ok (.slice e) (.list L) x) {l h : Nat} (h1 : l ≤ h) (h2 : h ≤ L.length) (he : inTab C e = true) :
    ∃ ad cap, x = .slice ad L.length cap ∧ L.length ≤ cap ∧ RepV C w ok (.slice e) (.list ((L.take h).drop l)) (sliced ad l h cap (C.tsz e)) := by
  obtain ⟨cs, hc, rfl⟩ := hx
  cases hc with
  | nils =>
    rename_i ad cap
    have : l = 0 := by simp at h2; omega
    subst this
    have : h = 0 := by simpa using h2
    subst this
    exact ⟨ad, cap, rfl, Nat.zero_le _, [sliced ad 0 0 cap (C.tsz e)], by simpa [sliced] using RepC.nils (C := C) (w := w) (ok := ok) (e := e) (a := if cap = 0 then ad else ad.map (·.add 0)) (cap := cap), rfl⟩
  | slice h0 hb hm hcap hcc hl hr =>
    rename_i b o cap cs
    refine ⟨_, _, rfl, hcap, ?_⟩
    have hks := kd_size H he
    by_cases hlh : l = h
    · subst hlh
      have : (L.take l).drop l = [] := by simp
      rw [this]
      refine ⟨[sliced (some ⟨b, o, none⟩) l l cap (C.tsz e)], ?_, rfl⟩
      simp only [sliced, Nat.sub_self]
      exact .nils
    · have hne : ¬ cap = l := by omega
      have hlen : ((L.take h).drop l).length = h - l := by simp; omega
      refine ⟨[sliced (some ⟨b, o, none⟩) l h cap (C.tsz e)], ?_, rfl⟩
      simp only [sliced, if_neg hne, Option.map_some, Addr.add_mid]
      have key := RepC.slice (C := C) (w := w) (ok := ok) (e := e) (l := (L.take h).drop l) (b := b) (o := o + l * C.tsz e) (cap := cap - l) (cs := (cs.take (h * C.ksz (C.kd e))).drop (l * C.ksz (C.kd e))) (by intro e; rw [e] at hlen; simp at hlen; omega) hb (by omega) (by omega) (by omega)
        (RepL.dropTake H l (RepL.dropTake H h hl).2).1 (by
          intro j v hv
          rw [List.getElem?_drop, List.getElem?_take] at hv
          split at hv
          · have := hr _ v hv
            rw [hks, ← Nat.add_assoc] at this
            exact this
          · simp at hv)
      rw [hlen] at key
      exact key

theorem asI_int (n : Int) : (D.int n).asI = n := rfl
theorem exI_ok {v : SV} {e : Ex} (h : exI v = some e) : v = .dat (.int .i64) e := by
  cases v with
  | dat k x =>
    unfold exI at h
    split at h
    · rename_i heq; simp only [SV.dat.injEq] at heq; simp only [Option.some.injEq] at h; rw [heq.1, heq.2, h]
    · simp at h
  | _ => simp [exI] at h
/-- A bound, as it stands in the text. -/
theorem bd_ok {ok : Nat → Prop} {x : Option Operand} {e : Option Ex} {dflt : Ex} {n : Nat} (h : x = none ∧ e = none ∨ ∃ y z, x = some y ∧ e = some z ∧ RepV C w ok (.int .i64) (z.ev C.G ρ) (a.eval y)) (hd : dflt.ev C.G ρ = .int n) (h0 : 0 ≤ ((e.getD dflt).ev C.G ρ).asI) :
    Bd (x.map a.eval) (((e.getD dflt).ev C.G ρ).asI.toNat) n := by
  rcases h with ⟨rfl, rfl⟩ | ⟨y, z, rfl, rfl, h⟩
  · exact .inl ⟨rfl, by simp [hd, D.asI]⟩
  · obtain ⟨m, h1, h2, _⟩ := RepV.int h
    simp only [Option.getD_some, h1, D.asI] at h0 ⊢
    right
    simp only [Option.map_some, h2, Option.some.injEq, Value.int.injEq, true_and]
    omega
theorem cut_ok (H : COK C) (h : SimB C w0 ok0 ρ s β a w) (hpc : pcOK C.G ρ pc = true) (hob : ∀ m o, ob m = some o → obsOf s pc m = some o) {o : Oper} {t : Nat} {x : Operand} {lo hi : Option Operand} {le he : Option Ex} {v r : SV} {c : List Ex} {ns : List Nat} {fs : List (Nat × Ob)} (ho : o.op = .slice t x lo hi none)
    (hx : RepSV C ρ β w (okk C w0 ok0 ρ s β w) v (a.eval x)) (hs : sliceV C ob t v le he = some (c, r, ns)) (hf : frzs C ob ns ns = some fs) (hc : allT C.G ρ c)
    (hl : lo = none ∧ le = none ∨ ∃ y z, lo = some y ∧ le = some z ∧ RepV C w (okk C w0 ok0 ρ s β w) (.int .i64) (z.ev C.G ρ) (a.eval y))
    (hh : hi = none ∧ he = none ∨ ∃ y z, hi = some y ∧ he = some z ∧ RepV C w (okk C w0 ok0 ρ s β w) (.int .i64) (z.ev C.G ρ) (a.eval y)) {l : List Pre} : Good C w0 ok0 ρ s pc o ⟨l, r, fs, []⟩ a w := by
  have hobR : ∀ m o, ob m = some o → RepOb C w0 ρ β w (okk C w0 ok0 ρ s β w) m o := fun m o hm => by
    obtain ⟨q, g1, g2⟩ := obsOf_some (hob m o hm)
    exact h.ob m q o g1 (subPC_ok g2 hpc)
  obtain ⟨h', ho2⟩ := h.freeze H hpc hob hf
  unfold sliceV at hs
  simp only at hs
  cases hk : C.kd t with
  | str =>
    simp only [hk] at hs
    cases v with
    | dat k e =>
      cases k with
      | str =>
        simp only [Option.some.injEq, Prod.mk.injEq] at hs
        obtain ⟨rfl, rfl, rfl⟩ := hs
        obtain ⟨S, e1, e2, e3⟩ := RepV.str hx
        have hc0 := hc _ (List.mem_cons_self ..)
        simp only [Ex.ev, U3.ev, U1.ev, e1, D.asS, asI_int, D.asB, decide_eq_true_eq] at hc0
        obtain ⟨c1, c2, c3⟩ := hc0
        have b1 := bd_ok (n := 0) (dflt := .int 0) hl rfl c1
        have b2 := bd_ok (n := S.length) (dflt := .un .slen e) hh (by simp only [Ex.ev, U1.ev, e1, D.asS]) (by omega)
        have hrun := run_cut_opt (P := C.P) (w := w) (s := ⟨S.toArray⟩) (str_fact H hk).1 b1 b2 (by omega) (by show _ ≤ S.length; omega)
        have hkk : RepV C w (okk C w0 ok0 ρ { s with ob := putOb pc fs s.ob } β w) .str (.str ((S.take ((he.getD (.un .slen e)).ev C.G ρ).asI.toNat).drop ((le.getD (.int 0)).ev C.G ρ).asI.toNat)) (.string ⟨(((S.take ((he.getD (.un .slen e)).ev C.G ρ).asI.toNat).drop ((le.getD (.int 0)).ev C.G ρ).asI.toNat)).toArray⟩) := RepV.mkStr (by simp; omega)
        refine Good.value (r := ⟨l, _, fs, []⟩) (β' := β) (w' := w) (x := .string ⟨(((S.take ((he.getD (.un .slen e)).ev C.G ρ).asI.toNat).drop ((le.getD (.int 0)).ev C.G ρ).asI.toNat)).toArray⟩) ?_ h' ?_
        · simp only [execOp, ho, Option.map_none, e2, hrun, Sem.run_bind, Sem.run_pure, Result.andThen_ok]
          congr 3
          apply ByteArray.ext
          apply Array.ext'
          simp [ByteArray.data_extract, List.drop_take]
        · simp only [RepSV, Ex.ev, U2.ev, e1, D.asS]
          exact hkk
      | _ => simp at hs
    | _ => simp at hs
  | slice e =>
    simp only [hk] at hs
    cases hd : toD C ob depth (.slice e) v with
    | none => simp [hd] at hs
    | some y =>
      obtain ⟨ex, ns'⟩ := y
      simp only [hd, Option.some.injEq, Prod.mk.injEq] at hs
      obtain ⟨rfl, rfl, rfl⟩ := hs
      have hX := ((toD_all H hobR depth).2.1 _ _ _ _ _ hd hx).keep (w' := w) ho2 fun _ _ => rfl
      obtain ⟨L, ad0, c0, e1, e2, _⟩ := RepV.slice hX
      have hc0 := hc _ (List.mem_cons_self ..)
      simp only [Ex.ev, U3.ev, U1.ev, e1, D.asL, asI_int, D.asB, decide_eq_true_eq] at hc0
      obtain ⟨c1, c2, c3⟩ := hc0
      have b1 := bd_ok (n := 0) (dflt := .int 0) hl rfl c1
      have b2 := bd_ok (n := L.length) (dflt := .un .len ex) hh (by simp only [Ex.ev, U1.ev, e1, D.asL]) (by omega)
      rw [e1] at hX
      obtain ⟨hu, hin, _⟩ := slice_fact H hk
      obtain ⟨ad, cap, f1, f2, f3⟩ := slice_rep H hX (l := ((le.getD (.int 0)).ev C.G ρ).asI.toNat) (h := ((he.getD (.un .len ex)).ev C.G ρ).asI.toNat) (by omega) (by omega) hin
      have hrun := run_slice_opt (P := C.P) (w := w) (ad := ad) (cap := cap) hu (size_run H hin) b1 b2 (by omega) (by omega) f2
      refine Good.value (r := ⟨l, _, fs, []⟩) (β' := β) (w' := w) (x := sliced ad ((le.getD (.int 0)).ev C.G ρ).asI.toNat ((he.getD (.un .len ex)).ev C.G ρ).asI.toNat cap (C.tsz e)) ?_ h' ?_
      · simp only [execOp, ho, Option.map_none, f1, hrun, Sem.run_bind, Sem.run_pure, Result.andThen_ok]
      · simp only [RepSV, Ex.ev, U2.ev, e1, D.asL]
        exact f3
  | _ => simp [hk] at hs

/-! ### Rows and arrays out of their elements -/
/-- Parts, as they are known, and their values. -/
inductive RepP (C : Ctx) (ρ : List D) (β : Be) (w : World) (ok : Nat → Prop) : List (Nat × SV) → List (Nat × Value) → Prop
  | nil : RepP C ρ β w ok [] []
  | cons {i v x l r} (h : RepSV C ρ β w ok v x) (hl : RepP C ρ β w ok l r) : RepP C ρ β w ok ((i, v) :: l) ((i, x) :: r)
theorem RepP.fst {ok : Nat → Prop} {l : List (Nat × SV)} {r : List (Nat × Value)} (h : RepP C ρ β w ok l r) : l.map (·.1) = r.map (·.1) := by
  induction h with
  | nil => rfl
  | cons _ _ ih => simp [ih]
theorem RepP.look {ok : Nat → Prop} {l : List (Nat × SV)} {r : List (Nat × Value)} (h : RepP C ρ β w ok l r) (i : Nat) : (look l i = none ∧ look r i = none) ∨ ∃ v x, look l i = some v ∧ look r i = some x ∧ RepSV C ρ β w ok v x := by
  induction h with
  | nil => exact .inl ⟨rfl, rfl⟩
  | @cons j v x l r h hl ih =>
    simp only [Sy.look]
    by_cases hj : j = i
    · simp only [if_pos hj]; exact .inr ⟨v, x, rfl, rfl, h⟩
    · simp only [if_neg hj]; exact ih
theorem look_of_mem {α : Type} : ∀ {l : List (Nat × α)} {p : Nat × α}, nodupB (l.map (·.1)) = true → p ∈ l → look l p.1 = some p.2
  | [], _, _, h => by simp at h
  | (i, x) :: l, p, hn, h => by
    simp only [List.map_cons, nodupB, Bool.and_eq_true, Bool.not_eq_true', List.contains_eq_mem, decide_eq_false_iff_not] at hn
    simp only [look]
    rcases List.mem_cons.1 h with rfl | h
    · simp
    · rw [if_neg fun (e : i = p.1) => hn.1 (List.mem_map.2 ⟨p, h, e.symm⟩)]
      exact look_of_mem hn.2 h

theorem elems_ok (H : COK C) {ok : Nat → Prop} (hob : ∀ m o, ob m = some o → RepOb C w0 ρ β w ok m o) {e : Nat} {ps : List (Nat × SV)} {parts : List (Nat × Value)} (hP : RepP C ρ β w ok ps parts) {S : List (List Value)}
    (hS : ∀ i, i < S.length → (∀ v, look parts i = some v → S[i]? = some v.cells.toList) ∧ (look parts i = none → ∃ z, S[i]? = some z ∧ ∀ ok zx, C.zero e = some zx → RepC C w ok (C.kd e) (zx.ev C.G ρ) z)) : ∀ (n i : Nat) (es : List Ex) (ns : List Nat), elems C ob e ps n i = some (es, ns) → i + n = S.length →
      RepL C w (ok2 β ok ob ns) (C.kd e) (evs C.G ρ es) (S.drop i).flatten
  | 0, i, es, ns, h, hi => by
    simp only [elems, Option.some.injEq, Prod.mk.injEq] at h
    obtain ⟨rfl, rfl⟩ := h
    rw [List.drop_eq_nil_of_le (by omega)]
    exact .nil
  | n + 1, i, es, ns, h, hi => by
    have hil : i < S.length := by omega
    have hd : S.drop i = S[i] :: S.drop (i + 1) := List.drop_eq_getElem_cons hil
    have hg : S[i]? = some S[i] := List.getElem?_eq_getElem hil
    simp only [elems] at h
    cases hr : elems C ob e ps n (i + 1) with
    | none => rw [hr] at h; split at h <;> simp_all
    | some y =>
      obtain ⟨es', ns'⟩ := y
      have ih := elems_ok H hob hP hS n (i + 1) es' ns' hr (by omega)
      rw [hr] at h
      have hSi := hS i hil
      rw [hd, List.flatten_cons]
      rcases hP.look i with ⟨h1, h2⟩ | ⟨v, x, h1, h2, h3⟩
      · simp only [h1] at h
        obtain ⟨z, hSi, hz⟩ := hSi.2 h2
        cases hzz : C.zero e with
        | none => simp [hzz] at h
        | some zx =>
          simp only [hzz, Option.map_some, Option.some.injEq, Prod.mk.injEq] at h
          obtain ⟨rfl, rfl⟩ := h
          rw [hg] at hSi
          simp only [Option.some.injEq] at hSi
          rw [hSi]
          simp only [evs, List.nil_append]
          exact .cons (hz _ _ hzz) ih
      · simp only [h1] at h
        replace hSi := hSi.1 _ h2
        cases hv : toD C ob depth (C.kd e) v with
        | none => simp [hv] at h
        | some y =>
          obtain ⟨ex, na⟩ := y
          simp only [hv, Option.some.injEq, Prod.mk.injEq] at h
          obtain ⟨rfl, rfl⟩ := h
          obtain ⟨cs, k1, k2⟩ := (toD_all H hob depth).2.1 _ _ _ _ _ hv h3
          rw [hg, k2, RepC.cells H k1] at hSi
          simp only [Option.some.injEq] at hSi
          rw [hSi]
          simp only [evs]
          exact .cons (k1.keep (ok2_mono fun m hm => List.mem_append_left _ hm) fun _ _ => rfl) (ih.keep (ok2_mono fun m hm => List.mem_append_right _ hm) fun _ _ => rfl)

theorem elems_all (H : COK C) {ok : Nat → Prop} (hob : ∀ m o, ob m = some o → RepOb C w0 ρ β w ok m o) {e : Nat} {ps : List (Nat × SV)} : ∀ (n i : Nat) (es : List Ex) (ns : List Nat), elems C ob e ps n i = some (es, ns) → ∀ j v, i ≤ j → j < i + n → look ps j = some v → ∃ ex a, toD C ob depth (C.kd e) v = some (ex, a)
  | 0, i, es, ns, h, j, v, h1, h2, _ => by omega
  | n + 1, i, es, ns, h, j, v, h1, h2, hl => by
    simp only [elems] at h
    cases hr : elems C ob e ps n (i + 1) with
    | none => rw [hr] at h; split at h <;> simp_all
    | some y =>
      by_cases hj : j = i
      · subst hj
        simp only [hl, hr] at h
        cases hv : toD C ob depth (C.kd e) v with
        | none => simp [hv] at h
        | some y => exact ⟨y.1, y.2, rfl⟩
      · exact elems_all H hob n (i + 1) _ _ hr j v (by omega) (by omega) hl

/-- The cells of a row, filled. -/
theorem fill_ok (H : COK C) {ok : Nat → Prop} (hob : ∀ m o, ob m = some o → RepOb C w0 ρ β w ok m o) {e len : Nat} {ps : List (Nat × SV)} {parts : List (Nat × Value)} {es : List Ex} {ns : List Nat} (he : inTab C e = true) (hP : RepP C ρ β w ok ps parts) (hn : nodupB (ps.map (·.1)) = true)
    (hl : ps.all (fun p => decide (p.1 < len)) = true) (hel : elems C ob e ps len 0 = some (es, ns)) {S : List (List Value)} (hS : ∀ g ∈ S, g.length = C.tsz e) (hSl : S.length = len)
    (hz : ∀ i, i < S.length → look parts i = none → ∃ z, S[i]? = some z ∧ ∀ ok zx, C.zero e = some zx → RepC C w ok (C.kd e) (zx.ev C.G ρ) z) :
    ∃ cs, Instr.fill (fun i => some (i * C.tsz e, C.tsz e)) S.flatten.toArray parts = some cs.toArray ∧ RepL C w (ok2 β ok ob ns) (C.kd e) (evs C.G ρ es) cs ∧ cs.length = len * C.tsz e := by
  have hP' := hP.fst
  have hall : ∀ p ∈ parts, p.1 < S.length ∧ p.2.cells.size = C.tsz e := by
    intro p hp
    have hlp := look_of_mem (by rw [← hP']; exact hn) hp
    rcases hP.look p.1 with ⟨_, h2⟩ | ⟨v, x, h1, h2, h3⟩
    · rw [h2] at hlp; simp at hlp
    · rw [h2] at hlp
      simp only [Option.some.injEq] at hlp
      have h4 := look_mem h1
      have h5 := List.all_eq_true.1 hl _ h4
      simp only [decide_eq_true_eq] at h5
      refine ⟨by omega, ?_⟩
      obtain ⟨ex, a, hd⟩ := elems_all H hob len 0 es ns hel p.1 v (Nat.zero_le _) (by omega) h1
      obtain ⟨cs, k1, k2⟩ := (toD_all H hob depth).2.1 _ _ _ _ _ hd h3
      rw [← hlp, k2, RepC.cells H k1, List.size_toArray, RepC.len H k1, kd_size H he]
  obtain ⟨f1, f2⟩ := fill_rows parts S hS hall
  have hlen := fillL_length parts S
  refine ⟨_, f1, ?_, ?_⟩
  · have := elems_ok H hob hP (S := fillL S parts) ?_ len 0 es ns hel (by omega)
    · simpa using this
    · intro i hi
      have hi' : i < S.length := by omega
      rw [fillL_get parts _ (by rw [← hP']; exact hn) hi']
      refine ⟨fun v hv => by rw [hv], fun hv => ?_⟩
      rw [hv]
      exact hz i hi' hv
  · rw [flatten_len f2, hlen, hSl]
theorem RepL.segs (H : COK C) {ok : Nat → Prop} {k : K} {l : List D} {cs : List Value} (h : RepL C w ok k l cs) : ∃ S : List (List Value), cs = S.flatten ∧ S.length = l.length ∧ ∀ g ∈ S, g.length = C.ksz k := by
  induction l generalizing cs with
  | nil => cases h; exact ⟨[], rfl, rfl, by simp⟩
  | cons x l ih =>
    cases h with
    | cons hc hl =>
      obtain ⟨S, rfl, h2, h3⟩ := ih hl
      refine ⟨_ :: S, rfl, by simp [h2], ?_⟩
      intro g hg
      rcases List.mem_cons.1 hg with rfl | hg
      · exact RepC.len H hc
      · exact h3 g hg

theorem range_cells (z : Array Value) (hz : 0 < z.size) (c : Nat) : ((Array.range (c * z.size)).map (z[· % z.size]!)) = (List.replicate c z.toList).flatten.toArray := by
  apply Array.ext'
  have := madeCells_eq z.toList (by simpa using hz) c
  simpa [madeCells] using this

theorem lit_none {ok : Nat → Prop} {ps : List (Nat × SV)} {parts : List (Nat × Value)} {len : Nat} (hP : RepP C ρ β w ok ps parts) (h0 : len = 0) (hl : ps.all (fun p => decide (p.1 < len)) = true) : parts = [] := by
  cases hP with
  | nil => rfl
  | cons h hl' => subst h0; simp at hl
theorem run_lit0 {P : Program} {t e : Nat} {i : TypeInfo} {parts : Array (Nat × Value)} (hu : P.underlying t = some (.slice e)) (hi : P.info? e = some i) (hp : parts.toList = []) :
    (Instr.buildSlice t 0 parts).run P w = .ok (.slice (some ⟨w.heap.size, 0, none⟩) 0 0) (w.alloc (.cells [].toArray e)) := by
  simp [Instr.buildSlice, run_underlying hu, Go.sizeOf, typeInfo, hi, hp, Instr.fill, newRow, Array.range_zero']
theorem lit_ok (H : COK C) (h : SimB C w0 ok0 ρ s β a w) (hpc : pcOK C.G ρ pc = true) (hob : ∀ m o, ob m = some o → obsOf s pc m = some o) {o : Oper} {t m e len : Nat} {parts : Array (Nat × Operand)} {ps : List (Nat × SV)} {es : List Ex} {ns : List Nat} {fs : List (Nat × Ob)} (ho : o.op = .buildSlice t len parts)
    (hk : C.kd t = .slice e) (hzz : (C.zero e).isSome = true) (hP : RepP C ρ β w (okk C w0 ok0 ρ s β w) ps (parts.map fun (i, x) => (i, a.eval x)).toList) (hn : nodupB (ps.map (·.1)) = true) (hl : ps.all (fun p => decide (p.1 < len)) = true) (hsmall : len * C.tsz e ≤ 65536)  (hel : elems C ob e ps len 0 = some (es, ns))
    (hf : frzs C ob ns ns = some fs) (hu : upOK s pc (m, .arr e (exList es) 0) = true) (hnone : look s.ob m = none) (hnd : nodupB (m :: fs.map (·.1)) = true) {l : List Pre} : Good C w0 ok0 ρ s pc o ⟨l, .sli m 0 e, (m, .arr e (exList es) 0) :: fs, [m]⟩ a w := by
  have hobR : ∀ m o, ob m = some o → RepOb C w0 ρ β w (okk C w0 ok0 ρ s β w) m o := fun m o hm => by
    obtain ⟨q, g1, g2⟩ := obsOf_some (hob m o hm)
    exact h.ob m q o g1 (subPC_ok g2 hpc)
  obtain ⟨h', ho2⟩ := h.freeze H hpc hob hf
  obtain ⟨hu1, he, _⟩ := slice_fact H hk
  obtain ⟨zx0, hz0⟩ := Option.isSome_iff_exists.1 hzz
  obtain ⟨i, z, hi, hz, hzc0⟩ := zero_ok (ρ := ρ) (w := w) (ok := fun _ => True) H hz0
  have hzc : ∀ ok zx, C.zero e = some zx → RepC C w ok (C.kd e) (zx.ev C.G ρ) z.cells.toList := fun ok zx hzx => by
    obtain ⟨i', z', g1, g2, g3⟩ := zero_ok (ρ := ρ) (w := w) (ok := ok) H hzx
    rw [hi] at g1
    simp only [Option.some.injEq] at g1
    subst g1
    rw [hz] at g2
    simp only [Option.some.injEq] at g2
    subst g2
    exact g3
  have hzl : z.cells.toList.length = C.tsz e := by rw [RepC.len H hzc0, kd_size H he]
  obtain ⟨i', hi', hsz, hby⟩ := info_fact H he
  rw [hi] at hi'
  simp only [Option.some.injEq] at hi'
  subst hi'
  have hp := tsz_pos H he
  obtain ⟨cs, f1, f2, f3⟩ := fill_ok H hobR he hP hn hl hel (S := List.replicate len z.cells.toList) (fun g hg => by rw [(List.mem_replicate.1 hg).2, hzl]) (by simp)
    (fun i hi _ => ⟨_, by rw [List.getElem?_replicate, if_pos (by simpa using hi)], hzc⟩)
  have hes : (evs C.G ρ es).length = len := by
    have := RepL.len H f2
    rw [f3, kd_size H he] at this
    exact (Nat.eq_of_mul_eq_mul_right hp this).symm
  have hzs : z.cells.size = C.tsz e := by simpa using hzl
  have hrun : (Instr.buildSlice t len (parts.map fun (i, x) => (i, a.eval x))).run C.P w = .ok (.slice (some ⟨w.heap.size, 0, none⟩) len len) (w.alloc (.cells cs.toArray e)) := by
   rcases Nat.eq_zero_or_pos len with h0 | hpos
   · have hpe := lit_none hP h0 hl
     have hcs : cs = [] := List.eq_nil_of_length_eq_zero (by rw [f3, h0]; simp)
     rw [hcs, h0]
     exact run_lit0 hu1 hi hpe
   have hr := run_buildSlice (P := C.P) w t e len (parts.map fun (i, x) => (i, a.eval x)) cs.toArray i z hu1 hi hz (by rw [hsz]; omega) (by rw [hsz]; have := Nat.mul_pos hpos hp; omega)
    (by
      rw [hsz]
      have := range_cells z.cells (by omega) len
      rw [hzs] at this
      rw [hzs, this]
      exact f1)
   exact hr
  obtain ⟨u1, u2, _⟩ := upOK_new hu hnone
  have hfm : ∀ x ∈ fs, x.1 ≠ m ∧ x.2.free m = true := fun x hx => ⟨fun e => by
    obtain ⟨g1, _⟩ := frzs_mem hf x hx
    obtain ⟨o', ho'⟩ := Option.isSome_iff_exists.1 g1
    obtain ⟨q, g2, _⟩ := obsOf_some (hob _ _ ho')
    rw [e, hnone] at g2
    simp at g2, (frzs_mem hf x hx).2 m⟩
  have hlen : cs.length ≤ 65536 := by omega
  obtain ⟨β', k1, k2⟩ := row_new h' hpc (c := exList es) (l := evs C.G ρ es) (cs := cs) (e := e) (m := m) (v := .slice (some ⟨w.heap.size, 0, none⟩) len len) (w' := w.alloc (.cells cs.toArray e)) u1 (obFree_put hfm u2) he (exList_ev ..)
    (by rw [hes]; unfold maxN; have := Nat.le_mul_of_pos_right len hp; omega) (below_alloc' _ _) (fun ok' hok => f2.keep (fun b hb => hok b (ho2 b hb)) fun b hb => heap_alloc_old w _ b (okk_size h'.below.size (ho2 b hb)))
    (by
      have := World.ownsRow_lit (base := w.heap.size) (e := e) (size := C.tsz e) w cs.toArray len (Nat.le_refl _) (by simp only [maxLen]; have := Nat.le_mul_of_pos_right len hp; omega) (by simpa using f3)
      rw [hes]
      simpa using this)
  refine Good.value (r := ⟨l, .sli m 0 e, (m, .arr e (exList es) 0) :: fs, [m]⟩) ?_ k1 (k2 _)
  simp only [execOp, ho, hrun, Sem.run_bind, Sem.run_pure, Result.andThen_ok]

theorem arr_ok (H : COK C) (h : SimB C w0 ok0 ρ s β a w) (hpc : pcOK C.G ρ pc = true) (hob : ∀ m o, ob m = some o → obsOf s pc m = some o) {o : Oper} {t n e : Nat} {parts : Array (Nat × Operand)} {ps : List (Nat × SV)} {es : List Ex} {ns : List Nat} {fs : List (Nat × Ob)} (ho : o.op = .build t parts)
    (hk : C.arrOf t = some (n, e)) (hzz : (C.zero t).isSome = true) (hP : RepP C ρ β w (okk C w0 ok0 ρ s β w) ps (parts.map fun (i, x) => (i, a.eval x)).toList) (hn : nodupB (ps.map (·.1)) = true) (hl : ps.all (fun p => decide (p.1 < n)) = true) (hfull : (List.range n).all (fun i => (look ps i).isSome) = true) (hel : elems C ob e ps n 0 = some (es, ns))
    (hf : frzs C ob ns ns = some fs) {l : List Pre} : Good C w0 ok0 ρ s pc o ⟨l, .dat (.arr t) (.un .mkagg (exList es)), fs, []⟩ a w := by
  have hobR : ∀ m o, ob m = some o → RepOb C w0 ρ β w (okk C w0 ok0 ρ s β w) m o := fun m o hm => by
    obtain ⟨q, g1, g2⟩ := obsOf_some (hob m o hm)
    exact h.ob m q o g1 (subPC_ok g2 hpc)
  obtain ⟨h', ho2⟩ := h.freeze H hpc hob hf
  obtain ⟨hu1, hts, he, hkd, ht⟩ := arr_fact H hk
  obtain ⟨zx0, hz0⟩ := Option.isSome_iff_exists.1 hzz
  obtain ⟨it, zt, hit, hzt, hzct⟩ := zero_ok (ρ := ρ) (w := w) (ok := fun _ => True) H hz0
  obtain ⟨i, hi, hsz, hby⟩ := info_fact H he
  have hp := tsz_pos H he
  rw [hkd] at hzct
  have hsegs : ∃ S : List (List Value), zt.cells.toList = S.flatten ∧ S.length = n ∧ ∀ g ∈ S, g.length = C.tsz e := by
    generalize zx0.ev C.G ρ = d at hzct
    cases hzct with
    | arr g1 g2 g3 =>
      rw [hk] at g1
      simp only [Option.some.injEq, Prod.mk.injEq] at g1
      obtain ⟨rfl, rfl⟩ := g1
      obtain ⟨S, k1, k2, k3⟩ := RepL.segs H g3
      exact ⟨S, k1, by omega, fun g hg => by rw [k3 g hg, kd_size H he]⟩
  obtain ⟨S, k1, k2, k3⟩ := hsegs
  have hP' := hP.fst
  obtain ⟨cs, f1, f2, f3⟩ := fill_ok H hobR he hP hn hl hel k3 k2 (fun j hj hlj => by
    have := List.all_eq_true.1 hfull j (by simp; omega)
    rcases hP.look j with ⟨h1, _⟩ | ⟨v, x, _, h2, _⟩
    · simp [h1] at this
    · rw [h2] at hlj; simp at hlj)
  have hes : (evs C.G ρ es).length = n := by
    have := RepL.len H f2
    rw [f3, kd_size H he] at this
    exact (Nat.eq_of_mul_eq_mul_right hp this).symm
  have hrun := run_build (P := C.P) w t (parts.map fun (i, x) => (i, a.eval x)) cs.toArray (by
    unfold Program.built
    simp only [hit, hu1, hzt, hi, hsz]
    rw [← f1, ← k1, Array.toArray_toList])
  refine Good.value (r := ⟨l, .dat (.arr t) (.un .mkagg (exList es)), fs, []⟩) (x := .agg cs.toArray) ?_ h' ?_
  · simp only [execOp, ho, hrun, Sem.run_bind, Sem.run_pure, Result.andThen_ok]
  · refine ⟨cs, ?_, rfl⟩
    simp only [Ex.ev, U1.ev]
    have : ((exList es).ev C.G ρ).asL = evs C.G ρ es := by rw [exList_ev]; rfl
    rw [this]
    exact .arr hk hes (f2.keep ho2 fun _ _ => rfl)

theorem places_ok (H : COK C) : ∀ {gs : List Field} {fs : List Nat} {o : Nat}, offsOK C gs fs o = true → ∃ places, gs.mapM (fun f => (C.P.info? f.type).map fun i => (f.offset, i.size)) = some places ∧ ∀ i ft, fs[i]? = some ft → places[i]? = some (o + sumSz C (fs.take i), C.tsz ft)
  | [], [], o, _ => ⟨[], rfl, by simp⟩
  | [], _ :: _, _, h => by simp [offsOK] at h
  | _ :: _, [], _, h => by simp [offsOK] at h
  | g :: gs, t :: ts, o, h => by
    simp only [offsOK, Bool.and_eq_true, decide_eq_true_eq] at h
    obtain ⟨⟨⟨⟨h1, h2⟩, h3⟩, _⟩, h5⟩ := h
    obtain ⟨pl, k1, k2⟩ := places_ok H h5
    obtain ⟨i, i1, i2, _⟩ := info_fact H (inTab_of_pos h3)
    refine ⟨(g.offset, i.size) :: pl, ?_, ?_⟩
    · rw [List.mapM_cons, h1, i1, k1]; rfl
    · intro j ft hj
      cases j with
      | zero =>
        simp only [List.getElem?_cons_zero, Option.some.injEq] at hj
        subst hj
        simp [h2, i2, sumSz]
      | succ j =>
        have := k2 j ft (by simpa using hj)
        simp only [List.getElem?_cons_succ, this, List.take_succ_cons, sumSz]
        congr 2
        omega
theorem RepScs.length {ok : Nat → Prop} : ∀ {l : List SV} {fs : List Nat} {cs : List Value}, RepScs C ρ β w ok l fs cs → l.length = fs.length
  | [], _, _, h => by rw [h.1]; rfl
  | _ :: _, _, _, ⟨t, ts, c1, c2, h1, h2, h3, h4⟩ => by rw [h1, List.length_cons, List.length_cons, RepScs.length h4]
theorem fill_struct (H : COK C) {ok : Nat → Prop} {fs : List Nat} (hin : ∀ t ∈ fs, inTab C t = true) {place : Nat → Option (Nat × Nat)} (hpl : ∀ i ft, fs[i]? = some ft → place i = some (sumSz C (fs.take i), C.tsz ft)) {ps : List (Nat × SV)} {parts : List (Nat × Value)} (hP : RepP C ρ β w ok ps parts) :
    (ps.all fun p => match fs[p.1]? with | some ft => kindOK C (C.kd ft) (typ C (C.kd ft) p.2) | none => false) = true → ∀ {l : List SV} {cs : List Value}, RepScs C ρ β w ok l fs cs →
    ∃ cs', Instr.fill place cs.toArray parts = some cs'.toArray ∧ RepScs C ρ β w ok (setAt l (ps.map fun p => (p.1, match fs[p.1]? with | some ft => typ C (C.kd ft) p.2 | none => p.2))) fs cs' := by
  induction hP with
  | nil => exact fun _ l cs h => ⟨cs, rfl, h⟩
  | @cons i v x l0 r h hl ih =>
    intro hall l cs hR
    simp only [List.all_cons, Bool.and_eq_true] at hall
    obtain ⟨h1, h2⟩ := hall
    cases hf : fs[i]? with
    | none => simp [hf] at h1
    | some ft =>
      simp only [hf] at h1
      have hlt : i < l.length := by rw [RepScs.length hR]; exact (List.getElem?_eq_some_iff.1 hf).1
      obtain ⟨ft', pre, c1, post, g1, g2, g3, g4, g5⟩ := RepScs.get H hR hin (List.getElem?_eq_getElem hlt)
      rw [hf] at g1
      simp only [Option.some.injEq] at g1
      subst g1
      obtain ⟨xs, x1, x2⟩ := RepSV.toC h1 (typ_ok (k := C.kd ft) h)
      have hft := hin ft (List.mem_of_getElem? hf)
      have hxl := RepSc.repC_len H hft x1
      have hcl := RepSc.repC_len H hft g4
      obtain ⟨cs', k1, k2⟩ := ih h2 (g5 _ _ x1)
      refine ⟨cs', ?_, ?_⟩
      · rw [g2, fill_step (by rw [hpl i ft hf, g3, hcl]) (by rw [x2, RepSc.cells H hft x1, List.size_toArray, hxl, hcl]), ← k1, x2, RepSc.cells H hft x1]
      · simp only [List.map_cons, setAt, hf]
        exact k2
theorem struct_ok (H : COK C) (h : SimB C w0 ok0 ρ s β a w) {o : Oper} {t : Nat} {parts : Array (Nat × Operand)} {ps : List (Nat × SV)} {v : SV} (ho : o.op = .build t parts)
    (hP : RepP C ρ β w (okk C w0 ok0 ρ s β w) ps (parts.map fun (i, x) => (i, a.eval x)).toList) (hb : buildV C t ps = some v) {l : List Pre} : Good C w0 ok0 ρ s pc o ⟨l, v, [], []⟩ a w := by
  unfold buildV at hb
  cases hf : C.fields t with
  | none => simp [hf] at hb
  | some fs =>
    cases hz : C.zeroV t with
    | none => simp [hf, hz] at hb
    | some zv =>
      cases zv with
      | agg t' l0 =>
        simp only [hf, hz] at hb
        split at hb
        · rename_i hc
          simp only [Option.some.injEq] at hb
          subst hb
          simp only [Bool.and_eq_true] at hc
          obtain ⟨i, z, hi, hzz, hzc⟩ := zeroV_ok (ρ := ρ) (β := β) (w := w) (ok := okk C w0 ok0 ρ s β w) H hz
          obtain ⟨e, gs, q1, q2, hu, hoff, q5, hkd, _⟩ := fields_fact H hf
          rw [hkd] at hzc
          obtain ⟨hk, fs', hf', hR⟩ := hzc
          simp only [K.struct.injEq] at hk
          subst hk
          rw [hf] at hf'
          simp only [Option.some.injEq] at hf'
          subst hf'
          obtain ⟨pl, p1, p2⟩ := places_ok H hoff
          obtain ⟨cs', k1, k2⟩ := fill_struct H (offs_in hoff) (place := (pl.toArray[·]?)) (fun i ft hi => by simpa using p2 i ft hi) hP hc.2 hR
          have hrun := run_build (P := C.P) w t (parts.map fun (i, x) => (i, a.eval x)) cs'.toArray (by
            unfold Program.built
            simp only [hi, hu, hzz, p1]
            rw [← k1, Array.toArray_toList])
          refine Good.pure (x := .agg cs'.toArray) h ?_ ?_
          · simp only [execOp, ho, hrun, Sem.run_bind, Sem.run_pure, Result.andThen_ok]
          · exact ⟨cs', fs, hf, k2, rfl⟩
        · simp at hb
      | _ => simp [hf, hz] at hb
end
end Sy
