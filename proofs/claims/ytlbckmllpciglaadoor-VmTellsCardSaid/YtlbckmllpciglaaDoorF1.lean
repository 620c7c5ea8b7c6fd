/- The framework, part 1: SySim, SyToD, SyState -/
import Derived.Test.YtlbckmllpciglaaDoorF0
set_option linter.unusedVariables false
set_option linter.unusedSimpArgs false
set_option linter.all false

/- What is known of a function's variables, held against the machine's: definitions and first facts. -/
namespace Sy
open Go Go.RowKit

structure COK (C : Ctx) : Prop where
  tys : tysOK C C.tys = true
  zero : ∀ t, (C.zeroV t).isSome = true ∨ (C.zero t).isSome = true → zOK C t = true
  call : ∀ f sg, C.sigs f = some sg → ∃ fn, C.P.funcs[f]? = some fn ∧ fn.body.isNone = false ∧ (fn.name == "runtime.NumGoroutine") = false
  mixed : C.P.follows .mixedOrders = true

section sizes
variable {C : Ctx} (H : COK C)
include H
theorem COK.fact {t : Nat} {e : TE} (h : look C.tys t = some e) : TyFact C t e := TyFact.of (tysOK_at H.tys h)
theorem kd_size {t : Nat} (h : inTab C t = true) : C.ksz (C.kd t) = C.tsz t := by
  unfold inTab Ctx.te at h
  cases hl : look C.tys t with
  | none => simp [hl] at h
  | some e =>
    have F := H.fact hl
    obtain ⟨td, sz, by_⟩ := e
    unfold Ctx.kd Ctx.ksz Ctx.tsz
    cases td <;> simp only [hl]
    · exact (F.int _ rfl).2.symm
    · exact (F.bool rfl).2.symm
    · exact (F.str rfl).2.symm
    · exact (F.slice _ rfl).2.1.symm
    · exact (F.ptr _ rfl).2.1.symm
    · exact (F.func _ _ rfl).2.symm
theorem tsz_pos {t : Nat} (h : inTab C t = true) : 0 < C.tsz t := by
  unfold inTab Ctx.te at h
  unfold Ctx.tsz
  cases hl : look C.tys t with
  | none => simp [hl] at h
  | some e => exact (H.fact hl).pos
omit H in
theorem inTab_of_pos {t : Nat} (h : 0 < C.tsz t) : inTab C t = true := by
  unfold Ctx.tsz at h
  unfold inTab Ctx.te
  cases hl : look C.tys t with
  | none => simp [hl] at h
  | some e => rfl
theorem fields_fact {t : Nat} {fs : List Nat} (h : C.fields t = some fs) : ∃ e gs, look C.tys t = some e ∧ e.td = .struct fs ∧ C.P.underlying t = some (.struct gs) ∧ offsOK C gs.toList fs 0 = true ∧ C.tsz t = sumSz C fs ∧ C.kd t = .struct t ∧ C.P.stoodInHeld t = false := by
  unfold Ctx.fields at h
  cases hl : look C.tys t with
  | none => simp [hl] at h
  | some e =>
    obtain ⟨td, sz, by_⟩ := e
    simp only [hl] at h
    cases td <;> simp only [reduceCtorEq, Option.some.injEq] at h
    subst h
    obtain ⟨gs, h1, h2, h3, h4⟩ := (H.fact hl).struct _ rfl
    exact ⟨_, gs, rfl, rfl, h1, h2, by unfold Ctx.tsz; rw [hl]; exact h3, by unfold Ctx.kd; rw [hl], h4⟩
omit H in
theorem offs_in {gs : List Field} {fs : List Nat} {o : Nat} (h : offsOK C gs fs o = true) : ∀ t ∈ fs, inTab C t = true := by
  induction fs generalizing gs o with
  | nil => simp
  | cons t ts ih =>
    cases gs with
    | nil => simp [offsOK] at h
    | cons g gs =>
      simp only [offsOK, Bool.and_eq_true, decide_eq_true_eq] at h
      intro x hx
      rcases List.mem_cons.1 hx with rfl | hx
      · exact inTab_of_pos h.1.1.2
      · exact ih h.2 x hx
theorem arr_fact {t n e : Nat} (h : C.arrOf t = some (n, e)) : C.P.underlying t = some (.array n e) ∧ C.tsz t = n * C.tsz e ∧ inTab C e = true ∧ C.kd t = .arr t ∧ inTab C t = true := by
  unfold Ctx.arrOf at h
  cases hl : look C.tys t with
  | none => simp [hl] at h
  | some x =>
    obtain ⟨td, sz, by_⟩ := x
    simp only [hl] at h
    cases td <;> simp only [reduceCtorEq, Option.some.injEq, Prod.mk.injEq] at h
    obtain ⟨rfl, rfl⟩ := h
    obtain ⟨h1, h2, h3⟩ := (H.fact hl).arr _ _ rfl
    exact ⟨h1, by unfold Ctx.tsz at *; rw [hl]; exact h2, h3, by unfold Ctx.kd; rw [hl], by unfold inTab Ctx.te; rw [hl]; rfl⟩
theorem slice_fact {t e : Nat} (h : C.kd t = .slice e) : C.P.underlying t = some (.slice e) ∧ inTab C e = true ∧ inTab C t = true := by
  unfold Ctx.kd at h
  cases hl : look C.tys t with
  | none => simp [hl] at h
  | some x =>
    obtain ⟨td, sz, by_⟩ := x
    simp only [hl] at h
    cases td <;> simp only [reduceCtorEq, K.slice.injEq] at h
    subst h
    obtain ⟨h1, h2, h3⟩ := (H.fact hl).slice _ rfl
    exact ⟨h1, h3, by unfold inTab Ctx.te; rw [hl]; rfl⟩
theorem ptr_fact {t e : Nat} (h : C.kd t = .ptr e) : C.P.underlying t = some (.pointer e) ∧ inTab C e = true ∧ inTab C t = true := by
  unfold Ctx.kd at h
  cases hl : look C.tys t with
  | none => simp [hl] at h
  | some x =>
    obtain ⟨td, sz, by_⟩ := x
    simp only [hl] at h
    cases td <;> simp only [reduceCtorEq, K.ptr.injEq] at h
    subst h
    obtain ⟨h1, h2, h3⟩ := (H.fact hl).ptr _ rfl
    exact ⟨h1, h3, by unfold inTab Ctx.te; rw [hl]; rfl⟩
theorem int_fact {t : Nat} {k : IntKind} (h : C.kd t = .int k) : C.P.underlying t = some (.int k) ∧ inTab C t = true := by
  unfold Ctx.kd at h
  cases hl : look C.tys t with
  | none => simp [hl] at h
  | some x =>
    obtain ⟨td, sz, by_⟩ := x
    simp only [hl] at h
    cases td <;> simp only [reduceCtorEq, K.int.injEq] at h
    subst h
    exact ⟨((H.fact hl).int _ rfl).1, by unfold inTab Ctx.te; rw [hl]; rfl⟩
theorem bool_fact {t : Nat} (h : C.kd t = .bool) : C.P.underlying t = some .bool ∧ inTab C t = true := by
  unfold Ctx.kd at h
  cases hl : look C.tys t with
  | none => simp [hl] at h
  | some x =>
    obtain ⟨td, sz, by_⟩ := x
    simp only [hl] at h
    cases td <;> simp only [reduceCtorEq] at h
    exact ⟨((H.fact hl).bool rfl).1, by unfold inTab Ctx.te; rw [hl]; rfl⟩
theorem str_fact {t : Nat} (h : C.kd t = .str) : C.P.underlying t = some .string ∧ inTab C t = true := by
  unfold Ctx.kd at h
  cases hl : look C.tys t with
  | none => simp [hl] at h
  | some x =>
    obtain ⟨td, sz, by_⟩ := x
    simp only [hl] at h
    cases td <;> simp only [reduceCtorEq] at h
    exact ⟨((H.fact hl).str rfl).1, by unfold inTab Ctx.te; rw [hl]; rfl⟩
omit H in
theorem struct_fact {t t' : Nat} (h : C.kd t = .struct t') : t' = t ∧ ∃ fs, C.fields t = some fs := by
  unfold Ctx.kd at h
  cases hl : look C.tys t with
  | none => simp [hl] at h
  | some x =>
    obtain ⟨td, sz, by_⟩ := x
    simp only [hl] at h
    cases td <;> simp only [reduceCtorEq, K.struct.injEq] at h
    exact ⟨h.symm, by unfold Ctx.fields; rw [hl]; exact ⟨_, rfl⟩⟩
omit H in
theorem arrk_fact {t t' : Nat} (h : C.kd t = .arr t') : t' = t ∧ ∃ n e, C.arrOf t = some (n, e) := by
  unfold Ctx.kd at h
  cases hl : look C.tys t with
  | none => simp [hl] at h
  | some x =>
    obtain ⟨td, sz, by_⟩ := x
    simp only [hl] at h
    cases td <;> simp only [reduceCtorEq, K.arr.injEq] at h
    exact ⟨h.symm, by unfold Ctx.arrOf; rw [hl]; exact ⟨_, _, rfl⟩⟩
theorem info_fact {t : Nat} (h : inTab C t = true) : ∃ i, C.P.info? t = some i ∧ i.size = C.tsz t ∧ i.bytes ≤ 4096 := by
  unfold inTab Ctx.te at h
  unfold Ctx.tsz
  cases hl : look C.tys t with
  | none => simp [hl] at h
  | some e =>
    have F := H.fact hl
    obtain ⟨i, h1, h2, h3⟩ := F.info
    exact ⟨i, h1, by simpa [hl] using h2, by have := F.bytes; omega⟩

end sizes

mutual
theorem RepC.len {C : Ctx} (H : COK C) {w : World} {ok : Nat → Prop} {k : K} {d : D} {cs : List Value} : RepC C w ok k d cs → cs.length = C.ksz k
  | .int _ | .bool | .str _ | .nils | .slice .. | .ptr .. | .nilp | .func .. => by simp [Ctx.ksz]
  | .struct (t := t) h hf => by
    obtain ⟨e, gs, h1, h2, h3, h4, h5, h6, _⟩ := fields_fact H h
    show cs.length = C.tsz t
    rw [h5]
    exact RepF.len H hf (offs_in h4)
  | .arr (t := t) h hn hl => by
    obtain ⟨h1, h2, h3, h4, _⟩ := arr_fact H h
    show cs.length = C.tsz t
    rw [h2, RepL.len H hl, kd_size H h3, hn]
theorem RepL.len {C : Ctx} (H : COK C) {w : World} {ok : Nat → Prop} {k : K} {l : List D} {cs : List Value} : RepL C w ok k l cs → cs.length = l.length * C.ksz k
  | .nil => by simp
  | .cons h hl => by
    have h1 := RepC.len H h
    have h2 := RepL.len H hl
    rw [List.length_append, h1, h2, List.length_cons, Nat.add_mul]
    omega
theorem RepF.len {C : Ctx} (H : COK C) {w : World} {ok : Nat → Prop} {ts : List Nat} {l : List D} {cs : List Value} : RepF C w ok ts l cs → (∀ t ∈ ts, inTab C t = true) → cs.length = sumSz C ts
  | .nil, _ => rfl
  | .cons h hl, hi => by
    have h1 := RepC.len H h
    have h2 := RepF.len H hl (fun t ht => hi t (List.mem_cons_of_mem _ ht))
    rw [List.length_append, h1, h2, kd_size H (hi _ (List.mem_cons_self ..))]
    rfl
end


/-! ### Where the objects lie -/
structure Be where
  bk : Nat → Nat
  vl : Nat → Nat → Value
  ty : Nat → Nat

def offP (C : Ctx) : Nat → List Nat → Option (Nat × Nat)
  | t, [] => some (0, t)
  | t, i :: p => match C.fields t with
    | some fs => match fs[i]? with
      | some ft => match offP C ft p with
        | some (o, t') => some (sumSz C (fs.take i) + o, t')
        | none => none
      | none => none
    | none => none

section rep
variable (C : Ctx) (ρ : List D) (β : Be) (w : World) (ok : Nat → Prop)
mutual
/-- Cell by cell. -/
def RepSc : SV → K → List Value → Prop
  | .dat k' e, k, cs => k' = k ∧ RepC C w ok k (e.ev C.G ρ) cs
  | .nils e, k, cs => k = .slice e ∧ cs = [.slice none 0 0]
  | .sli n ver e, k, cs => k = .slice e ∧ cs = [β.vl n ver] ∧ ∃ a l c, β.vl n ver = .slice a l c
  | .bptr n p t, k, cs => k = .ptr t ∧ ∃ off, offP C (β.ty n) p = some (off, t) ∧ cs = [.pointer (some ⟨β.bk n, off, none⟩)]
  | .agg t l, k, cs => k = .struct t ∧ ∃ fs, C.fields t = some fs ∧ RepScs l fs cs
  | _, _, _ => False
def RepScs : List SV → List Nat → List Value → Prop
  | [], fs, cs => fs = [] ∧ cs = []
  | v :: l, fs, cs => ∃ t ts c1 c2, fs = t :: ts ∧ cs = c1 ++ c2 ∧ RepSc v (C.kd t) c1 ∧ RepScs l ts c2
end
mutual
/-- As a value. -/
def RepSV : SV → Value → Prop
  | .dat k e, v => RepV C w ok k (e.ev C.G ρ) v
  | .nils _, v => v = .slice none 0 0
  | .nil0, v => v = .slice none 0 0
  | .nilp, v => v = .pointer none
  | .sli n ver _, v => v = β.vl n ver ∧ ∃ a l c, β.vl n ver = .slice a l c
  | .bptr n p t, v => ∃ off, offP C (β.ty n) p = some (off, t) ∧ v = .pointer (some ⟨β.bk n, off, none⟩)
  | .eptr n ver i p t, v => ∃ off b l c, offP C (β.ty n) p = some (off, t) ∧ β.vl n ver = .slice (some ⟨b, 0, none⟩) l c ∧
      0 ≤ (i.ev C.G ρ).asI ∧ (i.ev C.G ρ).asI < l ∧ v = .pointer (some ⟨b, (i.ev C.G ρ).asI.toNat * C.tsz (β.ty n) + off, none⟩)
  | .agg t l, v => ∃ cs fs, C.fields t = some fs ∧ RepScs C ρ β w ok l fs cs ∧ v = .agg cs.toArray
  | .tup l, v => ∃ vs, v = .tuple vs.toArray ∧ RepSVs l vs
  | .fnc f a b, v => ∃ v1 v2, v = .func (.func f) v1.toArray v2.toArray ∧ RepSVs a v1 ∧ RepSVs b v2
  | .tab e l, v => ∃ b cap cs, v = .slice (some ⟨b, 0, none⟩) l.length cap ∧ ok b ∧ w.rangeAt b 0 cs ∧ RepSVs l cs ∧ inTab C e = true ∧ C.tsz e = 1 ∧ (C.kd e).isRow = false ∧ l.length ≤ 4096
  | .tptr e i l, v => ∃ b cs, v = .pointer (some ⟨b, (i.ev C.G ρ).asI.toNat, none⟩) ∧ ok b ∧ w.rangeAt b 0 cs ∧ RepSVs l cs ∧ inTab C e = true ∧ C.tsz e = 1 ∧ (C.kd e).isRow = false ∧ 0 ≤ (i.ev C.G ρ).asI ∧ (i.ev C.G ρ).asI < l.length
  | .nilq e, v => ∃ b, v = .bool b ∧ (b = true → (e.ev C.G ρ).asL = [])
  | .nrow n rv i x, v => ∃ rows : Array Value, β.vl n rv = .agg rows ∧ 0 ≤ (i.ev C.G ρ).asI ∧ rows[(i.ev C.G ρ).asI.toNat]? = some v
  | .alt i l, v => ∃ cs, RepSVs l cs ∧ 0 ≤ (i.ev C.G ρ).asI ∧ cs[(i.ev C.G ρ).asI.toNat]? = some v
  | .gd pc x, v => if pcOK C.G ρ pc = true then RepSV x v else v = undef
  | .junk, _ => True
def RepSVs : List SV → List Value → Prop
  | [], vs => vs = []
  | x :: l, vs => ∃ v r, vs = v :: r ∧ RepSV x v ∧ RepSVs l r
end
end rep

def Ob.mut : Ob → Bool
  | .box _ _ | .arr _ _ _ | .narr .. => true
  | _ => false
def blkOf (β : Be) (n : Nat) : Ob → Option Nat
  | .box _ _ | .fbox _ _ => some (β.bk n)
  | .arr _ _ ver | .farr _ _ ver | .narr _ _ _ ver _ _ => (β.vl n ver).ownBlock

/-- Further blocks of an object. -/
def hidB (β : Be) (n : Nat) : Ob → Nat → Prop
  | .narr _ _ _ _ rv _, b => ∃ rows : Array Value, β.vl n rv = .agg rows ∧ ∃ (j : Nat) (r : Value), rows[j]? = some r ∧ r.ownBlock = some b
  | _, _ => False
/-- Is it a block of an object? -/
def Blk (β : Be) (n : Nat) (o : Ob) (b : Nat) : Prop := blkOf β n o = some b ∨ hidB β n o b

section sim
variable (C : Ctx) (w0 : World) (ok0 : Nat → Prop) (ρ : List D)
/-- The blocks that may still be written. -/
def Mut (s : S) (β : Be) (b : Nat) : Prop := ∃ n q o, look s.ob n = some (q, o) ∧ pcOK C.G ρ q = true ∧ o.mut = true ∧ Blk β n o b
/-- The blocks that data may lie in. -/
def okk (s : S) (β : Be) (w : World) (b : Nat) : Prop := (ok0 b ∧ b < w0.heap.size) ∨ (w0.heap.size ≤ b ∧ b < w.heap.size ∧ ¬ Mut C ρ s β b)

/-- A row of one's own, as it lies. -/
def OwnRow (w : World) (ok : Nat → Prop) (x : Nat) (d : D) (r : Value) : Prop := ∃ l cs, d = .list l ∧ RepL C w ok (C.kd x) l cs ∧ l.length ≤ maxN ∧ w.ownsRow w0.heap.size x (C.tsz x) r l.length cs
/-- An element with a row of its own; 'hole': the row is on its way. -/
def NElem (w : World) (ok : Nat → Prop) (e f : Nat) (hole : Option D) (d : D) (chunk : List Value) (r : Value) : Prop :=
  ∃ fs tf x ds pre h post y, C.fields e = some fs ∧ fs[f]? = some tf ∧ C.kd tf = .slice x ∧ inTab C x = true ∧ d = .agg ds ∧ ds[f]? = some y ∧ chunk = pre ++ h :: post ∧
    RepF C w ok (fs.take f) (ds.take f) pre ∧ RepF C w ok (fs.drop (f + 1)) (ds.drop (f + 1)) post ∧ (∃ a n c, h = .slice a n c) ∧
    (match hole with
      | some y' => OwnRow C w0 w ok x y' r
      | none => h = r ∧ OwnRow C w0 w ok x y r)
def holeAt (j : Nat) : Option (Ex × Ex) → Option D
  | some (i, y) => if (i.ev C.G ρ).asI = j then some (y.ev C.G ρ) else none
  | none => none
def RepOb (β : Be) (w : World) (ok : Nat → Prop) (n : Nat) : Ob → Prop
  | .box t v => β.ty n = t ∧ inTab C t = true ∧ ∃ cs E, w.heap[β.bk n]? = some (.cells cs.toArray E (0, 0)) ∧ RepSc C ρ β w ok v (C.kd t) cs
  | .arr e c ver => β.ty n = e ∧ inTab C e = true ∧ ∃ l cs, c.ev C.G ρ = .list l ∧ RepL C w ok (C.kd e) l cs ∧ l.length ≤ maxN ∧ w.ownsRow w0.heap.size e (C.tsz e) (β.vl n ver) l.length cs
  | .fbox t c => β.ty n = t ∧ inTab C t = true ∧ ok (β.bk n) ∧ ∃ cs, RepC C w ok (C.kd t) (c.ev C.G ρ) cs ∧ w.rangeAt (β.bk n) 0 cs
  | .farr e c ver => β.ty n = e ∧ inTab C e = true ∧ RepV C w ok (.slice e) (c.ev C.G ρ) (β.vl n ver) ∧ ((∃ a l c, β.vl n ver = .slice a l c) ∧ ∀ b o l c, β.vl n ver = .slice (some ⟨b, o, none⟩) l c → o = 0)
  | .narr e f c ver rv hole => β.ty n = e ∧ inTab C e = true ∧ ∃ l cs, ∃ rows : Array Value, c.ev C.G ρ = .list l ∧ l.length ≤ maxN ∧ w.ownsRow w0.heap.size e (C.tsz e) (β.vl n ver) l.length cs ∧ β.vl n rv = .agg rows ∧ rows.size = l.length ∧
      (∀ (j : Nat) (d : D) (r : Value), l[j]? = some d → rows[j]? = some r → NElem C w0 w ok e f (holeAt C ρ j hole) d ((cs.drop (j * C.tsz e)).take (C.tsz e)) r) ∧
      (∀ (i j : Nat) (r r' : Value) (b : Nat), rows[i]? = some r → rows[j]? = some r' → r.ownBlock = some b → r'.ownBlock = some b → i = j) ∧
      (∀ (j : Nat) (r : Value) (b : Nat), rows[j]? = some r→ r.ownBlock = some b → (β.vl n ver).ownBlock ≠ some b)

structure SimB (s : S) (β : Be) (a : Act) (w : World) : Prop where
  below : Below w0.heap.size w0 w
  size : a.tmps.size = s.nt
  dfr : a.defers = []
  sl : ∀ t v, look s.sl t = some v → RepSV C ρ β w (okk C w0 ok0 ρ s β w) v (a.tmps.getD t undef)
  ob : ∀ n q o, look s.ob n = some (q, o) → pcOK C.G ρ q = true → RepOb C w0 ρ β w (okk C w0 ok0 ρ s β w) n o
  sep : ∀ n m q q' o o' b, look s.ob n = some (q, o) → look s.ob m = some (q', o') → pcOK C.G ρ q = true → pcOK C.G ρ q' = true → o.mut = true → o'.mut = true → Blk β n o b → Blk β m o' b → n = m
  rng : ∀ n q o b, look s.ob n = some (q, o) → pcOK C.G ρ q = true → o.mut = true → Blk β n o b → w0.heap.size ≤ b ∧ b < w.heap.size
def Sim (s : S) (a : Act) (w : World) : Prop := ∃ β, SimB C w0 ok0 ρ s β a w
end sim

/-! ### What keeps it -/
section keep
variable {C : Ctx} {ρ : List D} {β β' : Be} {w w' : World} {ok ok' : Nat → Prop}
mutual
theorem RepSc.keep (ho : ∀ b, ok b → ok' b) (hw : ∀ b, ok b → w'.heap[b]? = w.heap[b]?) : ∀ {v : SV} {k : K} {cs : List Value}, RepSc C ρ β w ok v k cs → RepSc C ρ β w' ok' v k cs
  | .dat _ _, _, _, h => ⟨h.1, h.2.keep ho hw⟩
  | .nils _, _, _, h => h
  | .sli _ _ _, _, _, h => h
  | .bptr _ _ _, _, _, h => h
  | .agg _ l, _, _, ⟨hk, fs, hf, hl⟩ => ⟨hk, fs, hf, RepScs.keep ho hw hl⟩
  | .nil0, _, _, h | .nilp, _, _, h | .eptr .., _, _, h | .tup _, _, _, h | .fnc .., _, _, h | .tab .., _, _, h | .tptr .., _, _, h | .alt .., _, _, h | .nilq _, _, _, h | .nrow .., _, _, h | .gd .., _, _, h | .junk, _, _, h => h.elim
theorem RepScs.keep (ho : ∀ b, ok b → ok' b) (hw : ∀ b, ok b → w'.heap[b]? = w.heap[b]?) : ∀ {l : List SV} {fs : List Nat} {cs : List Value}, RepScs C ρ β w ok l fs cs → RepScs C ρ β w' ok' l fs cs
  | [], _, _, h => h
  | _ :: _, _, _, ⟨t, ts, c1, c2, h1, h2, h3, h4⟩ => ⟨t, ts, c1, c2, h1, h2, RepSc.keep ho hw h3, RepScs.keep ho hw h4⟩
end
mutual
theorem RepSV.keep (ho : ∀ b, ok b → ok' b) (hw : ∀ b, ok b → w'.heap[b]? = w.heap[b]?) : ∀ {v : SV} {x : Value}, RepSV C ρ β w ok v x → RepSV C ρ β w' ok' v x
  | .dat _ _, _, h => RepV.keep ho hw h
  | .nils _, _, h => h
  | .nil0, _, h => h
  | .nilp, _, h => h
  | .sli _ _ _, _, h => h
  | .bptr _ _ _, _, h => h
  | .eptr .., _, h => h
  | .agg _ l, _, ⟨cs, fs, hf, hl, hv⟩ => ⟨cs, fs, hf, RepScs.keep ho hw hl, hv⟩
  | .tup _, _, ⟨vs, h1, h2⟩ => ⟨vs, h1, RepSVs.keep ho hw h2⟩
  | .fnc .., _, ⟨v1, v2, h1, h2, h3⟩ => ⟨v1, v2, h1, RepSVs.keep ho hw h2, RepSVs.keep ho hw h3⟩
  | .tab .., _, ⟨b, cap, cs, h1, h2, h3, h4, h5⟩ => ⟨b, cap, cs, h1, ho _ h2, rangeAt_same h3 (hw _ h2), RepSVs.keep ho hw h4, h5⟩
  | .tptr .., _, ⟨b, cs, h1, h2, h3, h4, h5⟩ => ⟨b, cs, h1, ho _ h2, rangeAt_same h3 (hw _ h2), RepSVs.keep ho hw h4, h5⟩
  | .alt .., _, ⟨cs, h1, h2, h3⟩ => ⟨cs, RepSVs.keep ho hw h1, h2, h3⟩
  | .gd pc x, v, h => by
    unfold RepSV at h ⊢
    split
    · rename_i hp; rw [if_pos hp] at h; exact RepSV.keep ho hw h
    · rename_i hp; rw [if_neg hp] at h; exact h
  | .nilq _, _, h => h
  | .nrow .., _, h => h
  | .junk, _, _ => trivial
theorem RepSVs.keep (ho : ∀ b, ok b → ok' b) (hw : ∀ b, ok b → w'.heap[b]? = w.heap[b]?) : ∀ {l : List SV} {xs : List Value}, RepSVs C ρ β w ok l xs → RepSVs C ρ β w' ok' l xs
  | [], _, h => h
  | _ :: _, _, ⟨v, r, h1, h2, h3⟩ => ⟨v, r, h1, RepSV.keep ho hw h2, RepSVs.keep ho hw h3⟩
end

/-- Two arrangements that agree on what is named. -/
def Be.agree (m : Nat) (β β' : Be) : Prop := ∀ n, n ≠ m → β'.bk n = β.bk n ∧ β'.ty n = β.ty n ∧ ∀ v, β'.vl n v = β.vl n v
mutual
theorem RepSc.other {m : Nat} (hb : Be.agree m β β') : ∀ {v : SV} {k : K} {cs : List Value}, v.free m = true → RepSc C ρ β w ok v k cs → RepSc C ρ β' w ok v k cs
  | .dat _ _, _, _, _, h => h
  | .nils _, _, _, _, h => h
  | .sli n ver e, _, _, hf, h => by
    have := hb n (by simpa [SV.free] using hf)
    unfold RepSc at h ⊢
    rw [this.2.2]; exact h
  | .bptr n p t, _, _, hf, h => by
    have := hb n (by simpa [SV.free] using hf)
    unfold RepSc at h ⊢
    rw [this.1, this.2.1]; exact h
  | .agg _ l, _, _, hf, ⟨hk, fs, hfs, hl⟩ => ⟨hk, fs, hfs, RepScs.other hb (by simpa [SV.free] using hf) hl⟩
  | .nil0, _, _, _, h | .nilp, _, _, _, h | .eptr .., _, _, _, h | .tup _, _, _, _, h | .fnc .., _, _, _, h | .tab .., _, _, _, h | .tptr .., _, _, _, h | .alt .., _, _, _, h | .nilq _, _, _, _, h | .nrow .., _, _, _, h | .gd .., _, _, _, h | .junk, _, _, _, h => h.elim
theorem RepScs.other {m : Nat} (hb : Be.agree m β β') : ∀ {l : List SV} {fs : List Nat} {cs : List Value}, SV.frees m l = true → RepScs C ρ β w ok l fs cs → RepScs C ρ β' w ok l fs cs
  | [], _, _, _, h => h
  | _ :: _, _, _, hf, ⟨t, ts, c1, c2, h1, h2, h3, h4⟩ => by
    simp only [SV.frees, Bool.and_eq_true] at hf
    exact ⟨t, ts, c1, c2, h1, h2, RepSc.other hb hf.1 h3, RepScs.other hb hf.2 h4⟩
end
mutual
theorem RepSV.other {m : Nat} (hb : Be.agree m β β') : ∀ {v : SV} {x : Value}, v.free m = true → RepSV C ρ β w ok v x → RepSV C ρ β' w ok v x
  | .dat _ _, _, _, h => h
  | .nils _, _, _, h => h
  | .nil0, _, _, h => h
  | .nilp, _, _, h => h
  | .sli n ver e, _, hf, h => by
    have := hb n (by simpa [SV.free] using hf)
    unfold RepSV at h ⊢
    rw [this.2.2]; exact h
  | .bptr n p t, _, hf, h => by
    have := hb n (by simpa [SV.free] using hf)
    unfold RepSV at h ⊢
    rw [this.1, this.2.1]; exact h
  | .eptr n ver i p t, _, hf, h => by
    have := hb n (by simpa [SV.free] using hf)
    unfold RepSV at h ⊢
    rw [this.2.2, this.2.1]; exact h
  | .agg _ l, _, hf, ⟨cs, fs, hfs, hl, hv⟩ => ⟨cs, fs, hfs, RepScs.other hb (by simpa [SV.free] using hf) hl, hv⟩
  | .tup _, _, hf, ⟨vs, h1, h2⟩ => ⟨vs, h1, RepSVs.other hb (by simpa [SV.free] using hf) h2⟩
  | .fnc .., _, hf, ⟨v1, v2, h1, h2, h3⟩ => by
    simp only [SV.free, Bool.and_eq_true] at hf
    exact ⟨v1, v2, h1, RepSVs.other hb hf.1 h2, RepSVs.other hb hf.2 h3⟩
  | .tab .., _, hf, ⟨b, cap, cs, h1, h2, h3, h4, h5⟩ => ⟨b, cap, cs, h1, h2, h3, RepSVs.other hb (by simpa [SV.free] using hf) h4, h5⟩
  | .tptr .., _, hf, ⟨b, cs, h1, h2, h3, h4, h5⟩ => ⟨b, cs, h1, h2, h3, RepSVs.other hb (by simpa [SV.free] using hf) h4, h5⟩
  | .alt .., _, hf, ⟨cs, h1, h2, h3⟩ => ⟨cs, RepSVs.other hb (by simpa [SV.free] using hf) h1, h2, h3⟩
  | .gd pc x, v, hf, h => by
    unfold RepSV at h ⊢
    simp only [SV.free] at hf
    split
    · rename_i hp; rw [if_pos hp] at h; exact RepSV.other hb hf h
    · rename_i hp; rw [if_neg hp] at h; exact h
  | .nilq _, _, _, h => h
  | .nrow n rv i x, _, hf, h => by
    have := hb n (by simpa [SV.free] using hf)
    unfold RepSV at h ⊢
    rw [this.2.2]; exact h
  | .junk, _, _, _ => trivial
theorem RepSVs.other {m : Nat} (hb : Be.agree m β β') : ∀ {l : List SV} {xs : List Value}, SV.frees m l = true → RepSVs C ρ β w ok l xs → RepSVs C ρ β' w ok l xs
  | [], _, _, h => h
  | _ :: _, _, hf, ⟨v, r, h1, h2, h3⟩ => by
    simp only [SV.frees, Bool.and_eq_true] at hf
    exact ⟨v, r, h1, RepSV.other hb hf.1 h2, RepSVs.other hb hf.2 h3⟩
end

/-- Only one version of one array is told anew. -/
def Be.agreeV (m ver : Nat) (β β' : Be) : Prop := β'.bk = β.bk ∧ β'.ty = β.ty ∧ ∀ n v, n ≠ m ∨ v ≠ ver → β'.vl n v = β.vl n v
mutual
theorem RepSc.otherV {m vr : Nat} (hb : Be.agreeV m vr β β') : ∀ {v : SV} {k : K} {cs : List Value}, v.freeV m vr = true → RepSc C ρ β w ok v k cs → RepSc C ρ β' w ok v k cs
  | .dat _ _, _, _, _, h => h
  | .nils _, _, _, _, h => h
  | .sli n ver e, _, _, hf, h => by
    have := hb.2.2 n ver (by simpa [SV.freeV] using hf)
    unfold RepSc at h ⊢
    rw [this]; exact h
  | .bptr n p t, _, _, hf, h => by
    unfold RepSc at h ⊢
    rw [hb.1, hb.2.1]; exact h
  | .agg _ l, _, _, hf, ⟨hk, fs, hfs, hl⟩ => ⟨hk, fs, hfs, RepScs.otherV hb (by simpa [SV.freeV] using hf) hl⟩
  | .nil0, _, _, _, h | .nilp, _, _, _, h | .eptr .., _, _, _, h | .tup _, _, _, _, h | .fnc .., _, _, _, h | .tab .., _, _, _, h | .tptr .., _, _, _, h | .alt .., _, _, _, h | .nilq _, _, _, _, h | .nrow .., _, _, _, h | .gd .., _, _, _, h | .junk, _, _, _, h => h.elim
theorem RepScs.otherV {m vr : Nat} (hb : Be.agreeV m vr β β') : ∀ {l : List SV} {fs : List Nat} {cs : List Value}, SV.freeVs m vr l = true → RepScs C ρ β w ok l fs cs → RepScs C ρ β' w ok l fs cs
  | [], _, _, _, h => h
  | _ :: _, _, _, hf, ⟨t, ts, c1, c2, h1, h2, h3, h4⟩ => by
    simp only [SV.freeVs, Bool.and_eq_true] at hf
    exact ⟨t, ts, c1, c2, h1, h2, RepSc.otherV hb hf.1 h3, RepScs.otherV hb hf.2 h4⟩
end
mutual
theorem RepSV.otherV {m vr : Nat} (hb : Be.agreeV m vr β β') : ∀ {v : SV} {x : Value}, v.freeV m vr = true → RepSV C ρ β w ok v x → RepSV C ρ β' w ok v x
  | .dat _ _, _, _, h => h
  | .nils _, _, _, h => h
  | .nil0, _, _, h => h
  | .nilp, _, _, h => h
  | .sli n ver e, _, hf, h => by
    have := hb.2.2 n ver (by simpa [SV.freeV] using hf)
    unfold RepSV at h ⊢
    rw [this]; exact h
  | .bptr n p t, _, hf, h => by
    unfold RepSV at h ⊢
    rw [hb.1, hb.2.1]; exact h
  | .eptr n ver i p t, _, hf, h => by
    have := hb.2.2 n ver (by simpa [SV.freeV] using hf)
    unfold RepSV at h ⊢
    rw [this, hb.2.1]; exact h
  | .agg _ l, _, hf, ⟨cs, fs, hfs, hl, hv⟩ => ⟨cs, fs, hfs, RepScs.otherV hb (by simpa [SV.freeV] using hf) hl, hv⟩
  | .tup _, _, hf, ⟨vs, h1, h2⟩ => ⟨vs, h1, RepSVs.otherV hb (by simpa [SV.freeV] using hf) h2⟩
  | .fnc .., _, hf, ⟨v1, v2, h1, h2, h3⟩ => by
    simp only [SV.freeV, Bool.and_eq_true] at hf
    exact ⟨v1, v2, h1, RepSVs.otherV hb hf.1 h2, RepSVs.otherV hb hf.2 h3⟩
  | .tab .., _, hf, ⟨b, cap, cs, h1, h2, h3, h4, h5⟩ => ⟨b, cap, cs, h1, h2, h3, RepSVs.otherV hb (by simpa [SV.freeV] using hf) h4, h5⟩
  | .tptr .., _, hf, ⟨b, cs, h1, h2, h3, h4, h5⟩ => ⟨b, cs, h1, h2, h3, RepSVs.otherV hb (by simpa [SV.freeV] using hf) h4, h5⟩
  | .alt .., _, hf, ⟨cs, h1, h2, h3⟩ => ⟨cs, RepSVs.otherV hb (by simpa [SV.freeV] using hf) h1, h2, h3⟩
  | .gd pc x, v, hf, h => by
    unfold RepSV at h ⊢
    simp only [SV.freeV] at hf
    split
    · rename_i hp; rw [if_pos hp] at h; exact RepSV.otherV hb hf h
    · rename_i hp; rw [if_neg hp] at h; exact h
  | .nilq _, _, _, h => h
  | .nrow n rv i x, _, hf, h => by
    have := hb.2.2 n rv (by simpa [SV.freeV] using hf)
    unfold RepSV at h ⊢
    rw [this]; exact h
  | .junk, _, _, _ => trivial
theorem RepSVs.otherV {m vr : Nat} (hb : Be.agreeV m vr β β') : ∀ {l : List SV} {xs : List Value}, SV.freeVs m vr l = true → RepSVs C ρ β w ok l xs → RepSVs C ρ β' w ok l xs
  | [], _, _, h => h
  | _ :: _, _, hf, ⟨v, r, h1, h2, h3⟩ => by
    simp only [SV.freeVs, Bool.and_eq_true] at hf
    exact ⟨v, r, h1, RepSV.otherV hb hf.1 h2, RepSVs.otherV hb hf.2 h3⟩
end
end keep
end Sy

/- From what is known of a variable to plain data, and into and out of structs: that the programs do it right. -/
namespace Sy
open Go Go.RowKit

theorem evs_len (G : Nat → D) (ρ : List D) (l : List Ex) : (evs G ρ l).length = l.length := by induction l <;> simp_all [evs]
theorem exList_ev (G : Nat → D) (ρ : List D) (l : List Ex) : (exList l).ev G ρ = .list (evs G ρ l) := by
  induction l with
  | nil => rfl
  | cons e l ih => simp only [exList, Ex.ev, U2.ev, ih, D.asL, evs]

/-- c1 stands in cs from place off on. -/
def Part (cs : List Value) (off : Nat) (c1 : List Value) : Prop := ∃ pre post, cs = pre ++ c1 ++ post ∧ pre.length = off
theorem Part.refl (cs : List Value) : Part cs 0 cs := ⟨[], [], by simp, rfl⟩
theorem Part.trans {cs c1 c2 : List Value} {o o' : Nat} (h : Part cs o c1) (k : Part c1 o' c2) : Part cs (o + o') c2 := by
  obtain ⟨p, q, rfl, rfl⟩ := h
  obtain ⟨p', q', rfl, rfl⟩ := k
  exact ⟨p ++ p', q' ++ q, by simp [List.append_assoc], by simp⟩
theorem Part.range {w : World} {b o off : Nat} {cs c1 : List Value} (h : w.rangeAt b o cs) (k : Part cs off c1) : w.rangeAt b (o + off) c1 := by
  obtain ⟨p, q, rfl, rfl⟩ := k
  intro j v hv
  have hj : j < c1.length := (List.getElem?_eq_some_iff.1 hv).1
  have := h (p.length + j) v (by rw [List.append_assoc, List.getElem?_append_right (by omega), Nat.add_sub_cancel_left, List.getElem?_append_left hj]; exact hv)
  rw [Nat.add_assoc]; exact this

section
variable {C : Ctx} (H : COK C) {ρ : List D} {β : Be} {w : World} {ok : Nat → Prop}

include H in
theorem RepF.get {fs : List Nat} {ds : List D} {cs : List Value} (h : RepF C w ok fs ds cs) (hi : ∀ t ∈ fs, inTab C t = true) : ∀ {i ft}, fs[i]? = some ft →
    ∃ d pre c1 post, ds[i]? = some d ∧ cs = pre ++ c1 ++ post ∧ pre.length = sumSz C (fs.take i) ∧ RepC C w ok (C.kd ft) d c1 := by
  induction fs generalizing ds cs with
  | nil => intro i ft h; simp at h
  | cons t ts ih =>
    cases h with
    | cons hc hl =>
      rename_i d l c c'
      intro i ft hf
      cases i with
      | zero =>
        simp only [List.getElem?_cons_zero, Option.some.injEq] at hf
        subst hf
        exact ⟨d, [], c, c', rfl, by simp, rfl, hc⟩
      | succ i =>
        obtain ⟨d', pre, c1, post, h1, h2, h3, h4⟩ := ih hl (fun t ht => hi t (List.mem_cons_of_mem _ ht)) (i := i) (by simpa using hf)
        refine ⟨d', c ++ pre, c1, post, by simpa using h1, by rw [h2]; simp [List.append_assoc], ?_, h4⟩
        rw [List.length_append, h3, RepC.len H hc, kd_size H (hi t (List.mem_cons_self ..))]
        rfl

theorem RepSc.repC_len (H : COK C) : ∀ {v : SV} {t : Nat} {cs : List Value}, inTab C t = true → RepSc C ρ β w ok v (C.kd t) cs → cs.length = C.tsz t := by
  have key : ∀ (n : Nat) (v : SV) (t : Nat) (cs : List Value), sizeOf v < n → inTab C t = true → RepSc C ρ β w ok v (C.kd t) cs → cs.length = C.tsz t := by
    intro n
    induction n with
    | zero => intro v t cs h; omega
    | succ n ih =>
      intro v t cs hn ht h
      rw [← kd_size H ht]
      cases v with
      | dat k e => exact RepC.len H h.2
      | nils e => rw [h.1, h.2]; rfl
      | sli a b e => rw [h.1, h.2.1]; rfl
      | bptr m p t' => obtain ⟨h1, off, h2, h3⟩ := h; rw [h1, h3]; rfl
      | agg t' l =>
        obtain ⟨hk, fs, hf, hl⟩ := h
        obtain ⟨rfl, _⟩ := struct_fact hk
        obtain ⟨e, gs, h1, h2, h3, h4, h5, h6, _⟩ := fields_fact H hf
        rw [h6]
        show cs.length = C.tsz t'
        rw [h5]
        have hi := offs_in h4
        clear h1 h2 h3 h4 h5 h6 hk hf
        have hs : ∀ v ∈ l, sizeOf v < n := fun v hv => by
          have := List.sizeOf_lt_of_mem hv
          simp only [SV.agg.sizeOf_spec] at hn
          omega
        clear hn ht
        induction l generalizing fs cs with
        | nil => obtain ⟨rfl, rfl⟩ := hl; rfl
        | cons v l ihl =>
          obtain ⟨t1, ts, c1, c2, rfl, rfl, h3, h4⟩ := hl
          have e1 := ih v t1 c1 (hs v (List.mem_cons_self ..)) (hi t1 (List.mem_cons_self ..)) h3
          have e2 := ihl _ _ h4 (fun t ht => hi t (List.mem_cons_of_mem _ ht)) (fun v hv => hs v (List.mem_cons_of_mem _ hv))
          rw [List.length_append, e1, e2]
          rfl
      | nil0 => exact h.elim
      | nilp => exact h.elim
      | eptr => exact h.elim
      | tup => exact h.elim
      | fnc => exact h.elim
      | tab => exact h.elim
      | tptr => exact h.elim
      | alt => exact h.elim
      | nilq => exact h.elim
      | nrow => exact h.elim
      | gd => exact h.elim
      | junk => exact h.elim
  intro v t cs ht h
  exact key _ v t cs (Nat.lt_succ_self _) ht h

include H in
theorem RepScs.get {fs : List Nat} {l : List SV} {cs : List Value} (h : RepScs C ρ β w ok l fs cs) (hi : ∀ t ∈ fs, inTab C t = true) : ∀ {i v}, l[i]? = some v →
    ∃ ft pre c1 post, fs[i]? = some ft ∧ cs = pre ++ c1 ++ post ∧ pre.length = sumSz C (fs.take i) ∧ RepSc C ρ β w ok v (C.kd ft) c1 ∧
      ∀ x xs, RepSc C ρ β w ok x (C.kd ft) xs → RepScs C ρ β w ok (l.set i x) fs (pre ++ xs ++ post) := by
  induction l generalizing fs cs with
  | nil => intro i v h; simp at h
  | cons y l ih =>
    obtain ⟨t1, ts, c1, c2, rfl, rfl, h3, h4⟩ := h
    intro i v hv
    cases i with
    | zero =>
      simp only [List.getElem?_cons_zero, Option.some.injEq] at hv
      subst hv
      exact ⟨t1, [], c1, c2, rfl, by simp, rfl, h3, fun x xs hx => ⟨t1, ts, xs, c2, rfl, by simp, hx, h4⟩⟩
    | succ i =>
      obtain ⟨ft, pre, c, post, e1, e2, e3, e4, e5⟩ := ih h4 (fun t ht => hi t (List.mem_cons_of_mem _ ht)) (i := i) (by simpa using hv)
      refine ⟨ft, c1 ++ pre, c, post, by simpa using e1, by rw [e2]; simp [List.append_assoc], ?_, e4, fun x xs hx => ⟨t1, ts, c1, pre ++ xs ++ post, rfl, by simp [List.append_assoc], h3, e5 x xs hx⟩⟩
      rw [List.length_append, e3, RepSc.repC_len H (hi t1 (List.mem_cons_self ..)) h3]
      rfl

theorem nthX_ev (G : Nat → D) (ρ : List D) : ∀ (l : Ex) (i : Nat) (x : Ex), nthX l i = some x → at_ (l.ev G ρ).asL i = x.ev G ρ
  | .bin o a l, i, x, h => by
    cases o <;> try (simp [nthX] at h; done)
    cases i with
    | zero =>
      simp only [nthX, Option.some.injEq] at h
      subst h; rfl
    | succ i =>
      simp only [nthX] at h
      have := nthX_ev G ρ l i x h
      simp only [Ex.ev, U2.ev, D.asL]
      rw [← this]; rfl
  | .var _, _, _, h | .int _, _, _, h | .bool _, _, _, h | .str _, _, _, h | .lnil, _, _, h | .nil, _, _, h | .glob _, _, _, h | .un _ _, _, _, h | .tri _ _ _ _, _, _, h | .fn _ _ _, _, _, h => by simp [nthX] at h
theorem fldE_ev (G : Nat → D) (ρ : List D) (e : Ex) (i : Nat) : (fldE e i).ev G ρ = at_ (e.ev G ρ).asA i := by
  unfold fldE
  split
  · split
    · rename_i l x hx
      have := nthX_ev G ρ _ _ _ hx
      rw [← this]; rfl
    · rfl
  · rfl
theorem deref_ev (G : Nat → D) (ρ : List D) (e : Ex) : (deref e).ev G ρ = (e.ev G ρ).asP := by
  unfold deref
  split <;> rfl

theorem spread_ok {fs : List Nat} {ds : List D} {cs : List Value} (h : RepF C w ok fs ds cs) (e : Ex) : ∀ (i : Nat), (∀ j d, ds[j]? = some d → at_ (e.ev C.G ρ).asA (i + j) = d) → RepScs C ρ β w ok (spread C e fs i) fs cs := by
  induction fs generalizing ds cs with
  | nil => cases h; intro i _; exact ⟨rfl, rfl⟩
  | cons t ts ih =>
    cases h with
    | cons hc hl =>
      rename_i d l c c'
      intro i hd
      refine ⟨t, ts, c, c', rfl, rfl, ⟨rfl, ?_⟩, ih hl (i + 1) fun j d hj => ?_⟩
      · have := hd 0 d rfl
        rw [fldE_ev]
        simp only [Nat.add_zero] at this
        rw [this]; exact hc
      · have := hd (j + 1) d (by simpa using hj)
        rwa [show i + 1 + j = i + (j + 1) by omega]

theorem at_get {l : List D} {i : Nat} {d : D} (h : l[i]? = some d) : at_ l i = d := by
  unfold at_
  rw [List.getD_eq_getElem?_getD, h]; rfl

/-- The parts of a struct. -/
theorem parts_ok {t : Nat} {v : SV} {l : List SV} {cs : List Value} (hp : parts C t v = some l) (h : RepSc C ρ β w ok v (.struct t) cs) : ∃ fs, C.fields t = some fs ∧ RepScs C ρ β w ok l fs cs := by
  cases v with
  | agg t' l' =>
    simp only [parts] at hp
    split at hp
    · simp only [Option.some.injEq] at hp
      subst hp
      obtain ⟨hk, fs, hf, hl⟩ := h
      simp only [K.struct.injEq] at hk
      subst hk
      exact ⟨fs, hf, hl⟩
    · simp at hp
  | dat k e =>
    simp only [parts] at hp
    split at hp
    · rename_i hk
      subst hk
      obtain ⟨_, hc⟩ := h
      generalize he : e.ev C.G ρ = d at hc
      cases hc with
      | struct hf hF =>
        rename_i fs ds
        rw [hf] at hp
        simp only [Option.map_some, Option.some.injEq] at hp
        subst hp
        exact ⟨fs, hf, spread_ok hF e 0 fun j d hj => by rw [he]; simp only [D.asA, Nat.zero_add]; exact at_get hj⟩
    · simp at hp
  | _ => simp [parts] at hp

include H in
theorem projD_ok : ∀ (p : List Nat) {e e' : Ex} {t t' : Nat} {cs : List Value}, projD C e t p = some (e', t') → RepC C w ok (C.kd t) (e.ev C.G ρ) cs →
    ∃ off c1, offP C t p = some (off, t') ∧ Part cs off c1 ∧ RepC C w ok (C.kd t') (e'.ev C.G ρ) c1
  | [], e, e', t, t', cs, hp, h => by
    simp only [projD, Option.some.injEq, Prod.mk.injEq] at hp
    obtain ⟨rfl, rfl⟩ := hp
    exact ⟨0, cs, rfl, Part.refl cs, h⟩
  | i :: p, e, e', t, t', cs, hp, h => by
    simp only [projD] at hp
    cases hf : C.fields t with
    | none => simp [hf] at hp
    | some fs =>
      simp only [hf] at hp
      cases hi : fs[i]? with
      | none => simp [hi] at hp
      | some ft =>
        simp only [hi] at hp
        obtain ⟨_, gs, _, _, _, h4, _, h6, _⟩ := fields_fact H hf
        rw [h6] at h
        generalize he : e.ev C.G ρ = d at h
        cases h with
        | struct hf' hF =>
          rename_i fs' ds
          rw [hf] at hf'
          simp only [Option.some.injEq] at hf'
          subst hf'
          obtain ⟨d', pre, c1, post, g1, g2, g3, g4⟩ := RepF.get H hF (offs_in h4) hi
          obtain ⟨off, c2, k1, k2, k3⟩ := projD_ok p hp (cs := c1) (by rw [fldE_ev, he]; simp only [D.asA]; rw [at_get g1]; exact g4)
          exact ⟨_, c2, by simp only [offP, hf, hi, k1], Part.trans ⟨pre, post, g2, g3⟩ k2, k3⟩

include H in
theorem proj_ok : ∀ (p : List Nat) {v y : SV} {t t' : Nat} {cs : List Value}, proj C v t p = some (y, t') → RepSc C ρ β w ok v (C.kd t) cs →
    ∃ off c1, offP C t p = some (off, t') ∧ Part cs off c1 ∧ RepSc C ρ β w ok y (C.kd t') c1
  | [], v, y, t, t', cs, hp, h => by
    simp only [proj, Option.some.injEq, Prod.mk.injEq] at hp
    obtain ⟨rfl, rfl⟩ := hp
    exact ⟨0, cs, rfl, Part.refl cs, h⟩
  | i :: p, v, y, t, t', cs, hp, h => by
    simp only [proj] at hp
    cases hf : C.fields t with
    | none => simp [hf] at hp
    | some fs =>
      simp only [hf] at hp
      cases hi : fs[i]? with
      | none => simp [hi] at hp
      | some ft =>
        simp only [hi] at hp
        obtain ⟨_, gs, _, _, _, h4, _, h6, _⟩ := fields_fact H hf
        cases v with
        | agg t1 l =>
          simp only at hp
          cases hl : l[i]? with
          | none => simp [hl] at hp
          | some x =>
            simp only [hl] at hp
            obtain ⟨hk, fs', hf', hL⟩ := h
            rw [h6] at hk
            simp only [K.struct.injEq] at hk
            subst hk
            rw [hf] at hf'
            simp only [Option.some.injEq] at hf'
            subst hf'
            obtain ⟨ft', pre, c1, post, g1, g2, g3, g4, _⟩ := RepScs.get H hL (offs_in h4) hl
            rw [hi] at g1
            simp only [Option.some.injEq] at g1
            subst g1
            obtain ⟨off, c2, k1, k2, k3⟩ := proj_ok p hp g4
            exact ⟨_, c2, by simp only [offP, hf, hi, k1], Part.trans ⟨pre, post, g2, g3⟩ k2, k3⟩
        | dat k e =>
          simp only at hp
          obtain ⟨hk, hc⟩ := h
          rw [h6] at hc hk
          generalize he : e.ev C.G ρ = d at hc
          cases hc with
          | struct hf' hF =>
            rename_i fs' ds
            rw [hf] at hf'
            simp only [Option.some.injEq] at hf'
            subst hf'
            obtain ⟨d', pre, c1, post, g1, g2, g3, g4⟩ := RepF.get H hF (offs_in h4) hi
            obtain ⟨off, c2, k1, k2, k3⟩ := proj_ok p hp (cs := c1) ⟨rfl, by rw [fldE_ev, he]; simp only [D.asA]; rw [at_get g1]; exact g4⟩
            exact ⟨_, c2, by simp only [offP, hf, hi, k1], Part.trans ⟨pre, post, g2, g3⟩ k2, k3⟩
        | _ => simp at hp

include H in
theorem upd_ok : ∀ (p : List Nat) {v v' x : SV} {t off t' : Nat} {cs xs : List Value}, upd C v t p x = some v' → RepSc C ρ β w ok v (C.kd t) cs → offP C t p = some (off, t') → inTab C t = true → RepSc C ρ β w ok x (C.kd t') xs →
    ∃ pre c1 post, cs = pre ++ c1 ++ post ∧ pre.length = off ∧ c1.length = xs.length ∧ RepSc C ρ β w ok v' (C.kd t) (pre ++ xs ++ post)
  | [], v, v', x, t, off, t', cs, xs, hp, h, ho, ht, hx => by
    simp only [upd, Option.some.injEq] at hp
    subst hp
    simp only [offP, Option.some.injEq, Prod.mk.injEq] at ho
    obtain ⟨rfl, rfl⟩ := ho
    exact ⟨[], cs, [], by simp, rfl, by rw [RepSc.repC_len H ht h, RepSc.repC_len H ht hx], by simpa using hx⟩
  | i :: p, v, v', x, t, off, t', cs, xs, hp, h, ho, ht, hx => by
    simp only [upd] at hp
    simp only [offP] at ho
    cases hf : C.fields t with
    | none => simp [hf] at hp
    | some fs =>
      simp only [hf] at hp ho
      cases hi : fs[i]? with
      | none => simp [hi] at hp
      | some ft =>
        simp only [hi] at hp ho
        obtain ⟨_, gs, _, _, _, h4, _, h6, _⟩ := fields_fact H hf
        cases hps : parts C t v with
        | none => simp [hps] at hp
        | some l =>
          simp only [hps] at hp
          cases hl : l[i]? with
          | none => simp [hl] at hp
          | some y =>
            simp only [hl] at hp
            cases hu : upd C y ft p x with
            | none => simp [hu] at hp
            | some y' =>
              simp only [hu, Option.map_some, Option.some.injEq] at hp
              subst hp
              cases hop : offP C ft p with
              | none => simp [hop] at ho
              | some q =>
                obtain ⟨o1, t1⟩ := q
                simp only [hop, Option.some.injEq, Prod.mk.injEq] at ho
                obtain ⟨rfl, rfl⟩ := ho
                rw [h6] at h
                obtain ⟨fs', hf', hL⟩ := parts_ok hps h
                rw [hf] at hf'
                simp only [Option.some.injEq] at hf'
                subst hf'
                obtain ⟨ft', pre, c1, post, g1, g2, g3, g4, g5⟩ := RepScs.get H hL (offs_in h4) hl
                rw [hi] at g1
                simp only [Option.some.injEq] at g1
                subst g1
                obtain ⟨p2, c2, q2, k1, k2, k3, k4⟩ := upd_ok p hu g4 hop (offs_in h4 ft (List.mem_of_getElem? hi)) hx
                refine ⟨pre ++ p2, c2, q2 ++ post, by rw [g2, k1]; simp [List.append_assoc], by rw [List.length_append, g3, k2], k3, ?_⟩
                rw [h6]
                refine ⟨rfl, fs, hf, ?_⟩
                have := g5 y' _ k4
                rw [show pre ++ p2 ++ xs ++ (q2 ++ post) = pre ++ (p2 ++ xs ++ q2) ++ post by simp [List.append_assoc]]
                exact this

theorem RepF.set {fs : List Nat} {ds : List D} {cs : List Value} (h : RepF C w ok fs ds cs) : ∀ {i ft d}, fs[i]? = some ft → ds[i]? = some d → ∀ {pre c1 post : List Value} , cs = pre ++ c1 ++ post → pre.length = sumSz C (fs.take i) → (∀ t ∈ fs, inTab C t = true) → COK C → RepC C w ok (C.kd ft) d c1 →
    ∀ x xs, RepC C w ok (C.kd ft) x xs → RepF C w ok fs (ds.set i x) (pre ++ xs ++ post) := by
  induction fs generalizing ds cs with
  | nil => intro i ft d h; simp at h
  | cons t ts ih =>
    cases h with
    | cons hc hl =>
      rename_i d0 l c c'
      intro i ft d hi hd pre c1 post hcs hpre hin H hd1 x xs hx
      have hclen := RepC.len H hc
      rw [kd_size H (hin t (List.mem_cons_self ..))] at hclen
      cases i with
      | zero =>
        simp only [List.getElem?_cons_zero, Option.some.injEq] at hi hd
        subst hi; subst hd
        have hp0 : pre = [] := List.eq_nil_of_length_eq_zero (by simpa [sumSz] using hpre)
        subst hp0
        simp only [List.nil_append] at hcs
        have hl1 := RepC.len H hd1
        rw [kd_size H (hin t (List.mem_cons_self ..))] at hl1
        have : c = c1 ∧ c' = post := List.append_inj hcs (by omega)
        obtain ⟨rfl, rfl⟩ := this
        simpa using RepF.cons hx hl
      | succ i =>
        have hpre' : pre.length = C.tsz t + sumSz C (ts.take i) := hpre
        obtain ⟨pre', rfl⟩ : ∃ p', pre = c ++ p' := by
          refine ⟨pre.drop c.length, ?_⟩
          have h1 : (c ++ c').take c.length = (pre ++ c1 ++ post).take c.length := by rw [hcs]
          rw [List.take_left, List.append_assoc, List.take_append_of_le_length (by omega)] at h1
          have h2 := List.take_append_drop c.length pre
          rw [← h1] at h2
          exact h2.symm
        rw [List.append_assoc, List.append_assoc] at hcs
        have hcs' : c' = pre' ++ c1 ++ post := by
          have := List.append_cancel_left hcs
          rw [this]; simp
        have := ih hl (i := i) (by simpa using hi) (by simpa using hd) hcs' (by rw [List.length_append] at hpre'; omega) (fun t ht => hin t (List.mem_cons_of_mem _ ht)) H hd1 x xs hx
        rw [List.set_cons_succ, List.append_assoc, List.append_assoc]
        refine RepF.cons hc ?_
        simpa [List.append_assoc] using this

include H in
theorem updD_ok : ∀ (p : List Nat) {e e' x : Ex} {t off t' : Nat} {cs xs : List Value}, updD C e t p x = some e' → RepC C w ok (C.kd t) (e.ev C.G ρ) cs → offP C t p = some (off, t') → inTab C t = true → RepC C w ok (C.kd t') (x.ev C.G ρ) xs →
    ∃ pre c1 post, cs = pre ++ c1 ++ post ∧ pre.length = off ∧ c1.length = xs.length ∧ RepC C w ok (C.kd t) (e'.ev C.G ρ) (pre ++ xs ++ post)
  | [], e, e', x, t, off, t', cs, xs, hp, h, ho, ht, hx => by
    simp only [updD, Option.some.injEq] at hp
    subst hp
    simp only [offP, Option.some.injEq, Prod.mk.injEq] at ho
    obtain ⟨rfl, rfl⟩ := ho
    exact ⟨[], cs, [], by simp, rfl, by rw [RepC.len H h, RepC.len H hx], by simpa using hx⟩
  | i :: p, e, e', x, t, off, t', cs, xs, hp, h, ho, ht, hx => by
    simp only [updD] at hp
    simp only [offP] at ho
    cases hf : C.fields t with
    | none => simp [hf] at hp
    | some fs =>
      simp only [hf] at hp ho
      cases hi : fs[i]? with
      | none => simp [hi] at hp
      | some ft =>
        simp only [hi] at hp ho
        obtain ⟨_, gs, _, _, _, h4, _, h6, _⟩ := fields_fact H hf
        cases hu : updD C (fldE e i) ft p x with
        | none => simp [hu] at hp
        | some y =>
          simp only [hu, Option.map_some, Option.some.injEq] at hp
          subst hp
          cases hop : offP C ft p with
          | none => simp [hop] at ho
          | some q =>
            obtain ⟨o1, t1⟩ := q
            simp only [hop, Option.some.injEq, Prod.mk.injEq] at ho
            obtain ⟨rfl, rfl⟩ := ho
            rw [h6] at h
            generalize he : e.ev C.G ρ = d at h
            cases h with
            | struct hf' hF =>
              rename_i fs' ds
              rw [hf] at hf'
              simp only [Option.some.injEq] at hf'
              subst hf'
              obtain ⟨d', pre, c1, post, g1, g2, g3, g4⟩ := RepF.get H hF (offs_in h4) hi
              obtain ⟨p2, c2, q2, k1, k2, k3, k4⟩ := updD_ok p hu (cs := c1) (by rw [fldE_ev, he]; simp only [D.asA]; rw [at_get g1]; exact g4) hop (offs_in h4 ft (List.mem_of_getElem? hi)) hx
              refine ⟨pre ++ p2, c2, q2 ++ post, by rw [g2, k1]; simp [List.append_assoc], by rw [List.length_append, g3, k2], k3, ?_⟩
              rw [h6]
              simp only [Ex.ev, U2.ev, he, D.asA]
              rw [show pre ++ p2 ++ xs ++ (q2 ++ post) = pre ++ (p2 ++ xs ++ q2) ++ post by simp [List.append_assoc]]
              exact .struct hf (RepF.set hF hi g1 g2 g3 (offs_in h4) H g4 _ _ k4)

/-- A value of a kind out of its cells. -/
theorem RepSc.toV {v : SV} {k : K} {cs : List Value} (h : RepSc C ρ β w ok v k cs) : RepSV C ρ β w ok v (wrap k cs) := by
  cases v with
  | dat k' e => obtain ⟨rfl, h⟩ := h; exact ⟨cs, h, rfl⟩
  | nils e => obtain ⟨rfl, rfl⟩ := h; rfl
  | sli a b e => obtain ⟨rfl, rfl, h⟩ := h; exact ⟨rfl, h⟩
  | bptr m p t' => obtain ⟨rfl, off, h2, rfl⟩ := h; exact ⟨off, h2, rfl⟩
  | agg t' l => obtain ⟨rfl, fs, hf, hl⟩ := h; exact ⟨cs, fs, hf, hl, rfl⟩
  | _ => exact h.elim
theorem RepSV.toC {v : SV} {k : K} {x : Value} (hk : kindOK C k v = true) (h : RepSV C ρ β w ok v x) : ∃ cs, RepSc C ρ β w ok v k cs ∧ x = wrap k cs := by
  cases v with
  | dat k' e => simp only [kindOK, decide_eq_true_eq] at hk; subst hk; obtain ⟨cs, h1, h2⟩ := h; exact ⟨cs, ⟨rfl, h1⟩, h2⟩
  | nils e => simp only [kindOK, decide_eq_true_eq] at hk; subst hk; simp only [RepSV] at h; subst h; exact ⟨_, ⟨rfl, rfl⟩, rfl⟩
  | sli a b e => simp only [kindOK, decide_eq_true_eq] at hk; subst hk; obtain ⟨h1, h2⟩ := h; exact ⟨_, ⟨rfl, rfl, h2⟩, h1⟩
  | bptr m p t' => simp only [kindOK, decide_eq_true_eq] at hk; subst hk; obtain ⟨off, h1, h2⟩ := h; exact ⟨_, ⟨rfl, off, h1, rfl⟩, h2⟩
  | agg t' l => simp only [kindOK, Bool.and_eq_true, decide_eq_true_eq] at hk; obtain ⟨rfl, _⟩ := hk; obtain ⟨cs, fs, h1, h2, h3⟩ := h; exact ⟨cs, ⟨rfl, fs, h1, h2⟩, h3⟩
  | _ => simp [kindOK] at hk
end
/-! ### To data -/
section toD
variable {C : Ctx} (H : COK C) {ρ : List D} {β : Be} {w w0 : World} {ok : Nat → Prop} {ob : Obs}
/-- Data that may also lie in some objects that may still be written. -/
def ok2 (β : Be) (ok : Nat → Prop) (ob : Obs) (ns : List Nat) (b : Nat) : Prop := ok b ∨ ∃ m ∈ ns, ∃ o, ob m = some o ∧ Blk β m o b
theorem ok2_mono {ns ms : List Nat} (h : ∀ m ∈ ns, m ∈ ms) : ∀ b, ok2 β ok ob ns b → ok2 β ok ob ms b
  | _, .inl h0 => .inl h0
  | _, .inr ⟨m, hm, r⟩ => .inr ⟨m, h m hm, r⟩
theorem RepC.wide {k : K} {d : D} {cs : List Value} (h : RepC C w ok k d cs) (ho : ∀ b, ok b → ok b) {ok' : Nat → Prop} (ho' : ∀ b, ok b → ok' b) : RepC C w ok' k d cs := h.keep ho' fun _ _ => rfl

theorem ownsRow_slice {b0 e sz n : Nat} {v : Value} {xs : List Value} (h : w.ownsRow b0 e sz v n xs) : ∃ a c, v = .slice a n c := by
  rcases h.2 with ⟨rfl, rfl⟩ | ⟨g, cap, cur, rfl, _⟩
  · exact ⟨none, 0, rfl⟩
  · exact ⟨_, cap, rfl⟩
theorem ownsRow_range {b0 e sz n : Nat} {v : Value} {xs : List Value} (h : w.ownsRow b0 e sz v n xs) {b : Nat} (hb : v.ownBlock = some b) : w.rangeAt b 0 xs := by
  intro j u hu
  have := h.cells hb j u hu
  rw [Addr.add_mid] at this
  exact this
theorem ownsRow_form {b0 e sz n : Nat} {v : Value} {xs : List Value} (h : w.ownsRow b0 e sz v n xs) (h0 : 0 < n) : ∃ b c, v = .slice (some ⟨b, 0, none⟩) n c ∧ b0 ≤ b ∧ n ≤ c ∧ c ≤ maxLen := by
  rcases h.2 with ⟨rfl, rfl⟩ | ⟨g, cap, cur, rfl, h1, _, h2, h3, _⟩
  · omega
  · exact ⟨g, cap, rfl, h1, h2, h3⟩

/-- A row of one's own, read as data. -/
theorem arr_data {b0 e n : Nat} {v : Value} {l : List D} {cs : List Value} (h : w.ownsRow b0 e n v l.length cs) (hl : RepL C w ok (C.kd e) l cs) (hm : l.length ≤ maxN) {ok' : Nat → Prop} (ho : ∀ b, ok b → ok' b) (hb : ∀ b, v.ownBlock = some b → ok' b) :
    RepV C w ok' (.slice e) (.list l) v := by
  rcases Nat.eq_zero_or_pos l.length with h0 | h0
  · obtain rfl := List.eq_nil_of_length_eq_zero h0
    obtain ⟨a, c, rfl⟩ := ownsRow_slice h
    exact ⟨_, .nils, rfl⟩
  · obtain ⟨b, c, rfl, h1, h2, h3⟩ := ownsRow_form h h0
    refine ⟨_, .slice (fun e => by rw [e] at h0; simp at h0) (hb b rfl) (by unfold maxN at hm; omega) h2 (by unfold maxLen at h3; omega) (hl.keep ho fun _ _ => rfl) (ownsRow_range h rfl), rfl⟩

theorem RepL.chunks {k : K} {sz : Nat} : ∀ (l : List D) (cs : List Value), cs.length = l.length * sz → (∀ j d, l[j]? = some d → RepC C w ok k d ((cs.drop (j * sz)).take sz)) → RepL C w ok k l cs
  | [], cs, h, _ => by
    rw [List.length_nil, Nat.zero_mul] at h
    rw [List.eq_nil_of_length_eq_zero h]
    exact .nil
  | x :: l, cs, h, hc => by
    rw [List.length_cons, Nat.add_mul, Nat.one_mul] at h
    have h0 := hc 0 x rfl
    rw [Nat.zero_mul, List.drop_zero] at h0
    have h1 := RepL.chunks (k := k) (sz := sz) l (cs.drop sz) (by rw [List.length_drop]; omega) fun j d hj => by
      have := hc (j + 1) d (by simpa using hj)
      rw [List.drop_drop]
      rwa [Nat.add_mul, Nat.one_mul, Nat.add_comm] at this
    have := RepL.cons h0 h1
    rwa [List.take_append_drop] at this
theorem RepF.parts {fs : List Nat} {ds : List D} {pre post : List Value} {tf : Nat} {y : D} {h : List Value} : ∀ {f : Nat}, fs[f]? = some tf → ds[f]? = some y → RepF C w ok (fs.take f) (ds.take f) pre → RepC C w ok (C.kd tf) y h → RepF C w ok (fs.drop (f + 1)) (ds.drop (f + 1)) post → RepF C w ok fs ds (pre ++ h ++ post) := by
  intro f
  induction f generalizing fs ds pre with
  | zero =>
    intro h1 h2 h3 h4 h5
    cases fs with
    | nil => simp at h1
    | cons t fs =>
      cases ds with
      | nil => simp at h2
      | cons d ds =>
        simp only [List.getElem?_cons_zero, Option.some.injEq] at h1 h2
        subst h1 h2
        simp only [List.take_zero] at h3
        cases h3
        exact .cons h4 h5
  | succ f ih =>
    intro h1 h2 h3 h4 h5
    cases fs with
    | nil => simp at h1
    | cons t fs =>
      cases ds with
      | nil => simp at h2
      | cons d ds =>
        simp only [List.getElem?_cons_succ] at h1 h2
        simp only [List.take_succ_cons] at h3
        cases h3 with
        | cons hc hl =>
          have := RepF.cons hc (ih h1 h2 hl h4 h5)
          simpa [List.append_assoc] using this
theorem fields_kd {t : Nat} {fs : List Nat} (h : C.fields t = some fs) : C.kd t = .struct t := by
  unfold Ctx.fields at h
  unfold Ctx.kd
  cases hl : look C.tys t with
  | none => simp [hl] at h
  | some e =>
    simp only [hl] at h ⊢
    split at h <;> simp_all
/-- An element with a row of its own, as data. -/
theorem NElem.repC {e f : Nat} {d : D} {chunk : List Value} {r : Value} (h : NElem C w0 w ok e f none d chunk r) {ok' : Nat → Prop} (ho : ∀ b, ok b → ok' b) (hb : ∀ b, r.ownBlock = some b → ok' b) : RepC C w ok' (C.kd e) d chunk := by
  obtain ⟨fs, tf, x, ds, pre, h, post, y, h1, h2, h3, h4, rfl, h5, rfl, h6, h7, ⟨a, n, c, rfl⟩, rfl, l, cs, rfl, g1, g2, g3⟩ := h
  rw [fields_kd h1]
  obtain ⟨cs', k1, k2⟩ := arr_data g3 g1 g2 ho hb
  have hk : cs' = [.slice a n c] := by
    cases k1 with
    | nils => simp only [wrap, K.isRow, Bool.false_eq_true, if_false, List.headD_cons] at k2; rw [k2]
    | slice => simp only [wrap, K.isRow, Bool.false_eq_true, if_false, List.headD_cons] at k2; rw [k2]
  subst hk
  have := RepF.parts h2 h5 (h6.keep ho fun _ _ => rfl) (by rw [h3]; exact k1) (h7.keep ho fun _ _ => rfl)
  refine .struct h1 ?_
  simpa [List.append_assoc] using this
theorem narr_repL {e f : Nat} {l : List D} {cs : List Value} {rows : Array Value} (hcs : cs.length = l.length * C.tsz e) (hrow : rows.size = l.length)
    (hN : ∀ (j : Nat) (d : D) (r : Value), l[j]? = some d → rows[j]? = some r → NElem C w0 w ok e f none d ((cs.drop (j * C.tsz e)).take (C.tsz e)) r) {ok' : Nat → Prop} (ho : ∀ b, ok b → ok' b) (hb : ∀ (j : Nat) (r : Value) (b : Nat), rows[j]? = some r → r.ownBlock = some b → ok' b) : RepL C w ok' (C.kd e) l cs := by
  refine RepL.chunks l cs hcs fun j d hj => ?_
  have hlt : j < l.length := (List.getElem?_eq_some_iff.1 hj).1
  have hr : rows[j]? = some (rows[j]'(by omega)) := Array.getElem?_eq_getElem (by omega)
  exact (hN j d _ hj hr).repC ho fun b hb' => hb j _ b hr hb'

theorem ptr_data {m off t : Nat} {c1 cs : List Value} {d : D} (hr : w.rangeAt (β.bk m) 0 cs) (hp : Part cs off c1) (hd : RepC C w ok (C.kd t) d c1) (hb : ok (β.bk m)) : RepC C w ok (.ptr t) (.ptr d) [.pointer (some ⟨β.bk m, off, none⟩)] := by
  have := hp.range hr
  rw [Nat.zero_add] at this
  exact .ptr hb hd this

theorem heap_range {b : Nat} {cs : List Value} {E : Nat} {fz : Nat × Nat} (h : w.heap[b]? = some (.cells cs.toArray E fz)) : w.rangeAt b 0 cs := by
  intro j v hv
  rw [cell_of_row w b (0 + j) _ E fz h]
  simpa using hv

theorem RepL.get {k : K} {l : List D} {cs : List Value} (H : COK C) (h : RepL C w ok k l cs) : ∀ {i d}, l[i]? = some d → ∃ pre c1 post, cs = pre ++ c1 ++ post ∧ pre.length = i * C.ksz k ∧ RepC C w ok k d c1 := by
  induction l generalizing cs with
  | nil => intro i d h; simp at h
  | cons x l ih =>
    cases h with
    | cons hc hl =>
      rename_i c c'
      intro i d hi
      cases i with
      | zero =>
        simp only [List.getElem?_cons_zero, Option.some.injEq] at hi
        subst hi
        exact ⟨[], c, c', by simp, by simp, hc⟩
      | succ i =>
        obtain ⟨pre, c1, post, h1, h2, h3⟩ := ih hl (i := i) (by simpa using hi)
        refine ⟨c ++ pre, c1, post, by rw [h1]; simp [List.append_assoc], ?_, h3⟩
        rw [List.length_append, h2, RepC.len H hc, Nat.add_mul]
        omega
theorem RepL.at_ {k : K} {l : List D} {cs : List Value} (H : COK C) (h : RepL C w ok k l cs) {i : Nat} (hi : i < l.length) : ∃ c1, Part cs (i * C.ksz k) c1 ∧ RepC C w ok k (Sy.at_ l i) c1 := by
  obtain ⟨pre, c1, post, h1, h2, h3⟩ := RepL.get H h (i := i) (d := l[i]) (List.getElem?_eq_getElem hi)
  exact ⟨c1, ⟨pre, post, h1, h2⟩, by rw [at_get (List.getElem?_eq_getElem hi)]; exact h3⟩

/-- A pointer into a row, read as data. -/
theorem elem_data {b o e off t : Nat} {l : List D} {cs : List Value} (H : COK C) (he : inTab C e = true) (hr : w.rangeAt b o cs) (hl : RepL C w ok (C.kd e) l cs) (hb : ok b) {c i : Ex} {p : List Nat} {x : Ex}
    (hc : c.ev C.G ρ = .list l) (h0 : 0 ≤ (i.ev C.G ρ).asI) (h1 : (i.ev C.G ρ).asI < l.length) (hp : projD C (.bin .idx c i) e p = some (x, t)) (ho : offP C e p = some (off, t)) :
    ∃ c1, RepC C w ok (C.kd t) (x.ev C.G ρ) c1 ∧ w.rangeAt b (o + ((i.ev C.G ρ).asI.toNat * C.tsz e + off)) c1 ∧ ∃ c0, Part cs ((i.ev C.G ρ).asI.toNat * C.tsz e) c0 ∧ RepC C w ok (C.kd e) (at_ l (i.ev C.G ρ).asI.toNat) c0 ∧ Part c0 off c1 := by
  obtain ⟨c0, k1, k2⟩ := hl.at_ H (i := (i.ev C.G ρ).asI.toNat) (by omega)
  rw [kd_size H he] at k1
  obtain ⟨off', c1, g1, g2, g3⟩ := projD_ok H p hp (cs := c0) (show RepC C w ok (C.kd e) (at_ (D.asL (c.ev C.G ρ)) (i.ev C.G ρ).asI.toNat) c0 by rw [hc]; exact k2)
  rw [ho] at g1
  simp only [Option.some.injEq, Prod.mk.injEq] at g1
  obtain ⟨rfl, _⟩ := g1
  exact ⟨c1, g3, (k1.trans g2).range hr, c0, k1, k2, g2⟩

include H in
theorem toD_all (hob : ∀ m o, ob m = some o → RepOb C w0 ρ β w ok m o) : ∀ (n : Nat),
    (∀ (k : K) (v : SV) (e : Ex) (ns : List Nat) (cs : List Value), toD C ob n k v = some (e, ns) → RepSc C ρ β w ok v k cs → RepC C w (ok2 β ok ob ns) k (e.ev C.G ρ) cs) ∧
    (∀ (k : K) (v : SV) (e : Ex) (ns : List Nat) (x : Value), toD C ob n k v = some (e, ns) → RepSV C ρ β w ok v x → RepV C w (ok2 β ok ob ns) k (e.ev C.G ρ) x) ∧
    (∀ (fs : List Nat) (l : List SV) (es : List Ex) (ns : List Nat) (cs : List Value), toDs C ob n (fs.map C.kd) l = some (es, ns) → RepScs C ρ β w ok l fs cs → RepF C w (ok2 β ok ob ns) fs (evs C.G ρ es) cs) ∧
    (∀ (ks : List K) (l : List SV) (es : List Ex) (ns : List Nat) (xs : List Value), toDs C ob n ks l = some (es, ns) → RepSVs C ρ β w ok l xs → RepVs C w (ok2 β ok ob ns) ks (evs C.G ρ es) xs) := by
  intro n
  induction n with
  | zero =>
    refine ⟨?_, ?_, ?_, ?_⟩
    · intro k v e ns cs h; simp [toD] at h
    · intro k v e ns cs h; simp [toD] at h
    · intro k v e ns cs h; simp [toDs] at h
    · intro k v e ns cs h; simp [toDs] at h
  | succ n ih =>
    obtain ⟨ihA, ihB, ihC, ihD⟩ := ih
    have bp : ∀ (m : Nat) (p : List Nat) (t : Nat) (e : Ex) (ns : List Nat) (off : Nat), toD C ob (n + 1) (.ptr t) (.bptr m p t) = some (e, ns) → offP C (β.ty m) p = some (off, t) →
        RepC C w (ok2 β ok ob ns) (.ptr t) (e.ev C.G ρ) [.pointer (some ⟨β.bk m, off, none⟩)] := by
      intro m p t e ns off h ho
      simp only [toD, if_true] at h
      cases hm : ob m with
      | none => simp [hm] at h
      | some o =>
        have R := hob m o hm
        cases o with
        | box tb x =>
          simp only [hm] at h
          obtain ⟨rfl, htb, cs, E, hh, hx⟩ := R
          cases hn : toD C ob n (C.kd (β.ty m)) x with
          | none => simp [hn] at h
          | some q2 =>
            obtain ⟨e0, ns0⟩ := q2
            simp only [hn] at h
            have whole := ihA _ _ _ _ _ hn hx
            cases hp : projD C e0 (β.ty m) p with
            | none => simp [hp] at h
            | some q =>
              obtain ⟨e1, t'⟩ := q
              simp only [hp] at h
              split at h
              · rename_i ht
                subst ht
                simp only [Option.some.injEq, Prod.mk.injEq] at h
                obtain ⟨rfl, rfl⟩ := h
                obtain ⟨off', c1, g1, g2, g3⟩ := projD_ok H p hp whole
                rw [ho] at g1
                simp only [Option.some.injEq, Prod.mk.injEq] at g1
                obtain ⟨rfl, _⟩ := g1
                exact ptr_data (heap_range hh) g2 (g3.keep (ok2_mono fun m' h' => List.mem_cons_of_mem _ h') fun _ _ => rfl) (.inr ⟨m, List.mem_cons_self .., _, hm, .inl rfl⟩)
              · simp at h
        | fbox tb c =>
          simp only [hm] at h
          obtain ⟨rfl, htb, hb, cs, hc, hr⟩ := R
          cases hp : projD C c (β.ty m) p with
          | none => simp [hp] at h
          | some q =>
            obtain ⟨e1, t'⟩ := q
            simp only [hp] at h
            split at h
            · rename_i ht
              subst ht
              simp only [Option.some.injEq, Prod.mk.injEq] at h
              obtain ⟨rfl, rfl⟩ := h
              obtain ⟨off', c1, g1, g2, g3⟩ := projD_ok H p hp hc
              rw [ho] at g1
              simp only [Option.some.injEq, Prod.mk.injEq] at g1
              obtain ⟨rfl, _⟩ := g1
              exact ptr_data hr g2 (g3.keep (fun b hb => .inl hb) fun _ _ => rfl) (.inl hb)
            · simp at h
        | arr _ _ _ => simp [hm] at h
        | farr _ _ _ => simp [hm] at h
        | narr _ _ _ _ _ _ => simp [hm] at h
    have sl : ∀ (m ver e0 : Nat) (e : Ex) (ns : List Nat), toD C ob (n + 1) (.slice e0) (.sli m ver e0) = some (e, ns) → RepV C w (ok2 β ok ob ns) (.slice e0) (e.ev C.G ρ) (β.vl m ver) := by
      intro m ver e0 e ns h
      simp only [toD, if_true] at h
      cases hm : ob m with
      | none => simp [hm] at h
      | some o =>
        have R := hob m o hm
        cases o with
        | arr e' c ver' =>
          simp only [hm] at h
          split at h
          · rename_i hv
            obtain ⟨rfl, rfl⟩ := hv
            simp only [Option.some.injEq, Prod.mk.injEq] at h
            obtain ⟨rfl, rfl⟩ := h
            obtain ⟨_, he, l, cs, hc, hl, hmx, hown⟩ := R
            rw [hc]
            exact arr_data hown hl hmx (fun b hb => .inl hb) fun b hb => .inr ⟨m, List.mem_cons_self .., _, hm, .inl hb⟩
          · simp at h
        | farr e' c ver' =>
          simp only [hm] at h
          split at h
          · rename_i hv
            obtain ⟨rfl, rfl⟩ := hv
            simp only [Option.some.injEq, Prod.mk.injEq] at h
            obtain ⟨rfl, rfl⟩ := h
            exact R.2.2.1.keep (fun b hb => .inl hb) fun _ _ => rfl
          · simp at h
        | box _ _ => simp [hm] at h
        | fbox _ _ => simp [hm] at h
        | narr e' f c ver' rv hole =>
          cases hole with
          | some y => simp [hm] at h
          | none =>
            simp only [hm] at h
            split at h
            · rename_i hv
              obtain ⟨rfl, rfl⟩ := hv
              simp only [Option.some.injEq, Prod.mk.injEq] at h
              obtain ⟨rfl, rfl⟩ := h
              obtain ⟨_, he, l, cs, rows, hc, hmx, hown, hr1, hr2, hN, _, _⟩ := R
              rw [hc]
              have hl := narr_repL hown.1 hr2 hN (ok' := ok2 β ok ob [m]) (fun b hb => .inl hb) fun j r b hr hb => .inr ⟨m, List.mem_cons_self .., _, hm, .inr ⟨rows, hr1, j, r, hr, hb⟩⟩
              exact arr_data hown hl hmx (fun b hb => hb) fun b hb => .inr ⟨m, List.mem_cons_self .., _, hm, .inl hb⟩
            · simp at h
    have ag : ∀ (t : Nat) (l : List SV) (e : Ex) (ns : List Nat) (fs : List Nat) (cs : List Value), toD C ob (n + 1) (.struct t) (.agg t l) = some (e, ns) → C.fields t = some fs → RepScs C ρ β w ok l fs cs → RepC C w (ok2 β ok ob ns) (.struct t) (e.ev C.G ρ) cs := by
      intro t l e ns fs cs h hf hl
      simp only [toD, if_true, hf] at h
      cases hd : toDs C ob n (fs.map C.kd) l with
      | none => simp [hd] at h
      | some q =>
        obtain ⟨es, ns'⟩ := q
        simp only [hd, Option.some.injEq, Prod.mk.injEq] at h
        obtain ⟨rfl, rfl⟩ := h
        simp only [Ex.ev, U1.ev, exList_ev, D.asL]
        exact .struct hf (ihC _ _ _ _ _ hd hl)
    refine ⟨?_, ?_, ?_, ?_⟩
    · intro k v e ns cs h hc
      cases v with
      | dat k' e' =>
        obtain ⟨rfl, hc⟩ := hc
        simp only [toD, if_true, Option.some.injEq, Prod.mk.injEq] at h
        obtain ⟨rfl, rfl⟩ := h
        exact hc.keep (fun b hb => .inl hb) fun _ _ => rfl
      | nils e' =>
        obtain ⟨rfl, rfl⟩ := hc
        simp only [toD, if_true, Option.some.injEq, Prod.mk.injEq] at h
        obtain ⟨rfl, rfl⟩ := h
        exact .nils
      | sli m ver e0 =>
        obtain ⟨rfl, rfl, _⟩ := hc
        obtain ⟨cs', h1, h2⟩ := sl m ver e0 e ns h
        have : cs' = [β.vl m ver] := by
          have := RepC.len H h1
          match cs', this, h2 with
          | [u], _, h2 => simp only [wrap, K.isRow, Bool.false_eq_true, if_false, List.headD_cons] at h2; rw [h2]
        rw [← this]; exact h1
      | bptr m p t =>
        obtain ⟨rfl, off, h1, rfl⟩ := hc
        exact bp m p t e ns off h h1
      | agg t l =>
        obtain ⟨rfl, fs, hf, hl⟩ := hc
        exact ag t l e ns fs cs h hf hl
      | nil0 => exact hc.elim
      | nilp => exact hc.elim
      | eptr => exact hc.elim
      | tup => exact hc.elim
      | fnc => exact hc.elim
      | tab => exact hc.elim
      | tptr => exact hc.elim
      | alt => exact hc.elim
      | nilq => exact hc.elim
      | nrow => exact hc.elim
      | gd => exact hc.elim
      | junk => exact hc.elim
    · intro k v e ns x h hc
      cases v with
      | dat k' e' =>
        simp only [toD] at h
        split at h
        · rename_i hk
          subst hk
          simp only [Option.some.injEq, Prod.mk.injEq] at h
          obtain ⟨rfl, rfl⟩ := h
          exact RepV.keep (fun b hb => .inl hb) (fun _ _ => rfl) hc
        · simp at h
      | nils e' =>
        simp only [toD] at h
        split at h
        · rename_i hk
          subst hk
          simp only [Option.some.injEq, Prod.mk.injEq] at h
          obtain ⟨rfl, rfl⟩ := h
          simp only [RepSV] at hc
          subst hc
          exact ⟨_, .nils, rfl⟩
        · simp at h
      | nil0 =>
        simp only [toD] at h
        simp only [RepSV] at hc
        subst hc
        split at h
        · simp only [Option.some.injEq, Prod.mk.injEq] at h
          obtain ⟨rfl, rfl⟩ := h
          exact ⟨_, .nils, rfl⟩
        · simp at h
      | nilp =>
        simp only [toD] at h
        simp only [RepSV] at hc
        subst hc
        split at h
        · simp only [Option.some.injEq, Prod.mk.injEq] at h
          obtain ⟨rfl, rfl⟩ := h
          exact ⟨_, .nilp, rfl⟩
        · simp at h
      | sli m ver e0 =>
        have hk : k = .slice e0 := by
          simp only [toD] at h
          split at h
          · assumption
          · simp at h
        subst hk
        obtain ⟨rfl, _⟩ := hc
        exact sl m ver e0 e ns h
      | bptr m p t =>
        have hk : k = .ptr t := by
          simp only [toD] at h
          split at h
          · assumption
          · simp at h
        subst hk
        obtain ⟨off, h1, rfl⟩ := hc
        exact ⟨_, bp m p t e ns off h h1, rfl⟩
      | eptr m ver i p t =>
        simp only [toD] at h
        split at h
        · rename_i hk
          subst hk
          obtain ⟨off, b, l, c, h1, h2, h3, h4, rfl⟩ := hc
          cases hm : ob m with
          | none => simp [hm] at h
          | some o =>
            have R := hob m o hm
            cases o with
            | arr e' c' ver' =>
              simp only [hm] at h
              obtain ⟨rfl, he, ll, cs, hcc, hl, hmx, hown⟩ := R
              cases hp : projD C (.bin .idx c' i) (β.ty m) p with
              | none => simp [hp] at h
              | some q =>
                obtain ⟨x, t'⟩ := q
                simp only [hp] at h
                split at h
                · rename_i ht
                  obtain ⟨rfl, rfl⟩ := ht
                  simp only [Option.some.injEq, Prod.mk.injEq] at h
                  obtain ⟨rfl, rfl⟩ := h
                  obtain ⟨a', c'', hs⟩ := ownsRow_slice hown
                  rw [h2] at hs
                  simp only [Value.slice.injEq] at hs
                  obtain ⟨rfl, rfl, rfl⟩ := hs
                  have hb' : (β.vl m ver).ownBlock = some b := by rw [h2]; rfl
                  obtain ⟨c1, k1, k2, _⟩ := elem_data H he (ownsRow_range hown hb') (hl.keep (fun b hb => Or.inl (b := ∃ m' ∈ [m], ∃ o, ob m' = some o ∧ Blk β m' o b) hb) fun _ _ => rfl) (ok := ok2 β ok ob [m]) (.inr ⟨m, List.mem_cons_self .., _, hm, .inl hb'⟩) hcc h3 h4 hp h1
                  rw [Nat.zero_add] at k2
                  exact ⟨_, .ptr (.inr ⟨m, List.mem_cons_self .., _, hm, .inl hb'⟩) k1 k2, rfl⟩
                · simp at h
            | narr _ _ _ _ _ _ => simp [hm] at h
            | farr e' c' ver' =>
              simp only [hm] at h
              obtain ⟨rfl, he, ⟨cs, hcc, hwr⟩, _⟩ := R
              cases hp : projD C (.bin .idx c' i) (β.ty m) p with
              | none => simp [hp] at h
              | some q =>
                obtain ⟨x, t'⟩ := q
                simp only [hp] at h
                split at h
                · rename_i ht
                  obtain ⟨rfl, rfl⟩ := ht
                  simp only [Option.some.injEq, Prod.mk.injEq] at h
                  obtain ⟨rfl, rfl⟩ := h
                  generalize hev : c'.ev C.G ρ = dd at hcc
                  rw [h2] at hwr
                  cases hcc with
                  | nils =>
                    simp only [wrap, K.isRow, Bool.false_eq_true, if_false, List.headD_cons, Value.slice.injEq] at hwr
                    omega
                  | slice g0 gb gm gcap gc gl gr =>
                    simp only [wrap, K.isRow, Bool.false_eq_true, if_false, List.headD_cons, Value.slice.injEq, Option.some.injEq, Addr.mk.injEq, and_true] at hwr
                    obtain ⟨⟨rfl, rfl⟩, rfl, rfl⟩ := hwr
                    obtain ⟨c1, k1, k2, _⟩ := elem_data H he gr gl gb hev h3 h4 hp h1
                    rw [Nat.zero_add] at k2
                    exact ⟨_, .ptr (.inl gb) (k1.keep (fun b hb => .inl hb) fun _ _ => rfl) k2, rfl⟩
                · simp at h
            | box _ _ => simp [hm] at h
            | fbox _ _ => simp [hm] at h
        · simp at h
      | agg t l =>
        have hk : k = .struct t := by
          simp only [toD] at h
          split at h
          · assumption
          · simp at h
        subst hk
        obtain ⟨cs, fs, hf, hl, rfl⟩ := hc
        exact ⟨cs, ag t l e ns fs cs h hf hl, rfl⟩
      | fnc f first cap =>
        simp only [toD] at h
        cases k <;> try (simp at h; done)
        rename_i t
        simp only at h
        cases hf : C.funcOf t with
        | none => simp [hf] at h
        | some q =>
          obtain ⟨ps, rs⟩ := q
          cases hs : C.sigs f with
          | none => simp [hf, hs] at h
          | some sg =>
            simp only [hf, hs] at h
            split at h
            · rename_i hcond
              cases h1 : toDs C ob n (sg.params.take first.length) first with
              | none => simp [h1] at h
              | some q1 =>
                obtain ⟨e1, n1⟩ := q1
                cases h2 : toDs C ob n (sg.params.drop (first.length + ps.length)) cap with
                | none => simp [h1, h2] at h
                | some q2 =>
                  obtain ⟨e2, n2⟩ := q2
                  simp only [h1, h2, Option.some.injEq, Prod.mk.injEq] at h
                  obtain ⟨rfl, rfl⟩ := h
                  obtain ⟨v1, v2, rfl, k1, k2⟩ := hc
                  simp only [Ex.ev, exList_ev, D.asL]
                  exact ⟨_, .func hf hs hcond.1 hcond.2.1 ((ihD _ _ _ _ _ h1 k1).keep (ok2_mono fun m hm => List.mem_append_left _ hm) fun _ _ => rfl)
                    ((ihD _ _ _ _ _ h2 k2).keep (ok2_mono fun m hm => List.mem_append_right _ hm) fun _ _ => rfl), rfl⟩
            · simp at h
      | tup l => simp [toD] at h
      | tab _ _ => simp [toD] at h
      | tptr _ _ _ => simp [toD] at h
      | alt _ _ => simp [toD] at h
      | nilq _ => simp [toD] at h
      | nrow _ _ _ _ => simp [toD] at h
      | gd pc v => simp [toD] at h
      | junk => simp [toD] at h
    · intro fs l es ns cs h hc
      cases l with
      | nil =>
        obtain ⟨rfl, rfl⟩ := hc
        simp only [toDs, List.map_nil, Option.some.injEq, Prod.mk.injEq] at h
        obtain ⟨rfl, rfl⟩ := h
        exact .nil
      | cons v l =>
        obtain ⟨t, ts, c1, c2, rfl, rfl, h3, h4⟩ := hc
        simp only [toDs, List.map_cons] at h
        cases h1 : toD C ob n (C.kd t) v with
        | none => simp [h1] at h
        | some q1 =>
          cases h2 : toDs C ob n (ts.map C.kd) l with
          | none => simp [h1, h2] at h
          | some q2 =>
            simp only [h1, h2, Option.some.injEq, Prod.mk.injEq] at h
            obtain ⟨rfl, rfl⟩ := h
            exact .cons ((ihA _ _ _ _ _ h1 h3).keep (ok2_mono fun m hm => List.mem_append_left _ hm) fun _ _ => rfl) ((ihC _ _ _ _ _ h2 h4).keep (ok2_mono fun m hm => List.mem_append_right _ hm) fun _ _ => rfl)
    · intro ks l es ns xs h hc
      cases l with
      | nil =>
        simp only [RepSVs] at hc
        subst hc
        cases ks with
        | nil =>
          simp only [toDs, Option.some.injEq, Prod.mk.injEq] at h
          obtain ⟨rfl, rfl⟩ := h
          exact .nil
        | cons => simp [toDs] at h
      | cons v l =>
        obtain ⟨x, r, rfl, h3, h4⟩ := hc
        cases ks with
        | nil => simp [toDs] at h
        | cons k ks =>
          simp only [toDs] at h
          cases h1 : toD C ob n k v with
          | none => simp [h1] at h
          | some q1 =>
            cases h2 : toDs C ob n ks l with
            | none => simp [h1, h2] at h
            | some q2 =>
              simp only [h1, h2, Option.some.injEq, Prod.mk.injEq] at h
              obtain ⟨rfl, rfl⟩ := h
              obtain ⟨cs, g1, rfl⟩ := ihB _ _ _ _ _ h1 h3
              exact .cons (g1.keep (ok2_mono fun m hm => List.mem_append_left _ hm) fun _ _ => rfl) ((ihD _ _ _ _ _ h2 h4).keep (ok2_mono fun m hm => List.mem_append_right _ hm) fun _ _ => rfl)
end toD
end Sy

/- How what is known changes with memory: a variable is set; an object is made, written, frozen. -/
namespace Sy
open Go Go.RowKit

theorem look_cons {α : Type} (i : Nat) (x : α) (l : List (Nat × α)) (n : Nat) : look ((i, x) :: l) n = if i = n then some x else look l n := rfl
theorem look_mem {α : Type} : ∀ {l : List (Nat × α)} {n : Nat} {x : α}, look l n = some x → (n, x) ∈ l
  | [], _, _, h => by simp [look] at h
  | (i, y) :: l, n, x, h => by
    simp only [look] at h
    split at h
    · rename_i hi; subst hi; simp only [Option.some.injEq] at h; subst h; exact List.mem_cons_self ..
    · exact List.mem_cons_of_mem _ (look_mem h)

theorem pcOK_mem {G : Nat → D} {ρ : List D} {pc : PC} (h : pcOK G ρ pc = true) : ∀ x ∈ pc, ((x.1.ev G ρ).asB == x.2) = true := by
  induction pc with
  | nil => simp
  | cons y l ih =>
    obtain ⟨e, b⟩ := y
    simp only [pcOK, Bool.and_eq_true] at h
    intro x hx
    rcases List.mem_cons.1 hx with rfl | hx
    · exact h.1
    · exact ih h.2 x hx
theorem pcOK_of {G : Nat → D} {ρ : List D} {pc : PC} (h : ∀ x ∈ pc, ((x.1.ev G ρ).asB == x.2) = true) : pcOK G ρ pc = true := by
  induction pc with
  | nil => rfl
  | cons y l ih =>
    obtain ⟨e, b⟩ := y
    simp only [pcOK, Bool.and_eq_true]
    exact ⟨h _ (List.mem_cons_self ..), ih fun x hx => h x (List.mem_cons_of_mem _ hx)⟩
theorem pcOK_append {G : Nat → D} {ρ : List D} {p q : PC} (hp : pcOK G ρ p = true) (hq : pcOK G ρ q = true) : pcOK G ρ (p ++ q) = true :=
  pcOK_of fun x hx => (List.mem_append.1 hx).elim (pcOK_mem hp x) (pcOK_mem hq x)
theorem subPC_mem : ∀ {q pc : PC}, subPC q pc = true → ∀ x ∈ q, x ∈ pc
  | [], _, _ => by simp
  | y :: l, pc, h => by
    simp only [subPC, Bool.and_eq_true] at h
    intro x hx
    rcases List.mem_cons.1 hx with rfl | hx
    · simpa using h.1
    · exact subPC_mem h.2 x hx
theorem subPC_ok {G : Nat → D} {ρ : List D} {q pc : PC} (h : subPC q pc = true) (hp : pcOK G ρ pc = true) : pcOK G ρ q = true :=
  pcOK_of fun x hx => pcOK_mem hp x (subPC_mem h x hx)

theorem slFree_look {m : Nat} : ∀ {l : List (Nat × SV)} {t : Nat} {v : SV}, slFree m l = true → look l t = some v → v.free m = true
  | [], _, _, _, h => by simp [look] at h
  | (i, x) :: l, t, v, hf, h => by
    simp only [slFree, Bool.and_eq_true] at hf
    simp only [look] at h
    split at h
    · simp only [Option.some.injEq] at h; subst h; exact hf.1
    · exact slFree_look hf.2 h
theorem slFreeV_look {m ver : Nat} : ∀ {l : List (Nat × SV)} {t : Nat} {v : SV}, slFreeV m ver l = true → look l t = some v → v.freeV m ver = true
  | [], _, _, _, h => by simp [look] at h
  | (i, x) :: l, t, v, hf, h => by
    simp only [slFreeV, Bool.and_eq_true] at hf
    simp only [look] at h
    split at h
    · simp only [Option.some.injEq] at h; subst h; exact hf.1
    · exact slFreeV_look hf.2 h
theorem obFree_look {m : Nat} : ∀ {l : List (Nat × PC × Ob)} {n : Nat} {q : PC} {o : Ob}, obFree m l = true → look l n = some (q, o) → n ≠ m ∧ o.free m = true
  | [], _, _, _, _, h => by simp [look] at h
  | (i, x) :: l, n, q, o, hf, h => by
    obtain ⟨q', o'⟩ := x
    simp only [obFree, Bool.and_eq_true, decide_eq_true_eq] at hf
    simp only [look] at h
    split at h
    · rename_i hi; simp only [Option.some.injEq, Prod.mk.injEq] at h; obtain ⟨rfl, rfl⟩ := h; exact ⟨hi ▸ hf.1.1, hf.1.2⟩
    · exact obFree_look hf.2 h
theorem obFreeV_look {m ver : Nat} : ∀ {l : List (Nat × PC × Ob)} {n : Nat} {q : PC} {o : Ob}, obFreeV m ver l = true → look l n = some (q, o) → o.freeV m ver = true
  | [], _, _, _, _, h => by simp [look] at h
  | (i, x) :: l, n, q, o, hf, h => by
    obtain ⟨q', o'⟩ := x
    simp only [obFreeV, Bool.and_eq_true] at hf
    simp only [look] at h
    split at h
    · simp only [Option.some.injEq, Prod.mk.injEq] at h; obtain ⟨rfl, rfl⟩ := h; exact hf.1
    · exact obFreeV_look hf.2 h

theorem oneC_bound {w : World} {base e size : Nat} {v : Value} {n : Nat} {xs : List Value} (h : w.ownsRow base e size v n xs) {b : Nat} (hb : v.ownBlock = some b) : base ≤ b ∧ b < w.heap.size := h.lt b hb

theorem Blk_box {β : Be} {n t b : Nat} {v : SV} : Blk β n (.box t v) b ↔ β.bk n = b := by simp [Blk, blkOf, hidB]
theorem Blk_arr {β : Be} {n e ver b : Nat} {c : Ex} : Blk β n (.arr e c ver) b ↔ (β.vl n ver).ownBlock = some b := by simp [Blk, blkOf, hidB]
theorem Blk_narr {β : Be} {n e f ver rv b : Nat} {c : Ex} {hole : Option (Ex × Ex)} : Blk β n (.narr e f c ver rv hole) b ↔ (β.vl n ver).ownBlock = some b ∨ ∃ rows : Array Value, β.vl n rv = .agg rows ∧ ∃ (j : Nat) (r : Value), rows[j]? = some r ∧ r.ownBlock = some b := by simp [Blk, blkOf, hidB]
theorem ownsRow.same {w w' : World} {base e size n : Nat} {v : Value} {xs : List Value} (h : w.ownsRow base e size v n xs) (hs : ∀ b, v.ownBlock = some b → w'.heap[b]? = w.heap[b]?) : w'.ownsRow base e size v n xs := by
  refine ⟨h.1, ?_⟩
  rcases h.2 with hn | ⟨g, cap, cur, hv, hb, hg, rest⟩
  · exact .inl hn
  · exact .inr ⟨g, cap, cur, hv, hb, by rw [hs g (by simp [hv, Value.ownBlock])]; exact hg, rest⟩
theorem OwnRow.keep {C : Ctx} {w0 w w' : World} {ok ok' : Nat → Prop} {x : Nat} {d : D} {r : Value} (ho : ∀ b, ok b → ok' b) (hw : ∀ b, ok b → w'.heap[b]? = w.heap[b]?) (hr : ∀ b, r.ownBlock = some b → w'.heap[b]? = w.heap[b]?) (h : OwnRow C w0 w ok x d r) : OwnRow C w0 w' ok' x d r := by
  obtain ⟨l, cs, h1, h2, h3, h4⟩ := h
  exact ⟨l, cs, h1, h2.keep ho hw, h3, ownsRow.same h4 hr⟩
theorem NElem.keep {C : Ctx} {w0 w w' : World} {ok ok' : Nat → Prop} {e f : Nat} {hole : Option D} {d : D} {chunk : List Value} {r : Value} (ho : ∀ b, ok b → ok' b) (hw : ∀ b, ok b → w'.heap[b]? = w.heap[b]?) (hr : ∀ b, r.ownBlock = some b → w'.heap[b]? = w.heap[b]?)
    (h : NElem C w0 w ok e f hole d chunk r) : NElem C w0 w' ok' e f hole d chunk r := by
  obtain ⟨fs, tf, x, ds, pre, h, post, y, h1, h2, h3, h4, h5, h6, h7, h8, h9, h10, h11⟩ := h
  refine ⟨fs, tf, x, ds, pre, h, post, y, h1, h2, h3, h4, h5, h6, h7, h8.keep ho hw, h9.keep ho hw, h10, ?_⟩
  cases hole with
  | some y' => exact OwnRow.keep ho hw hr h11
  | none => exact ⟨h11.1, OwnRow.keep ho hw hr h11.2⟩

/-- Data keeps where its blocks keep. -/
theorem RepOb.keep {C : Ctx} {w0 : World} {ρ : List D} {β : Be} {w w' : World} {ok ok' : Nat → Prop} {n : Nat} {o : Ob} (ho : ∀ b, ok b → ok' b) (hw : ∀ b, ok b → w'.heap[b]? = w.heap[b]?)
    (hm : o.mut = true → ∀ b, Blk β n o b → w'.heap[b]? = w.heap[b]?) (h : RepOb C w0 ρ β w ok n o) : RepOb C w0 ρ β w' ok' n o := by
  cases o with
  | box t v =>
    obtain ⟨h1, h2, cs, E, h3, h4⟩ := h
    exact ⟨h1, h2, cs, E, by rw [hm rfl _ (Blk_box.2 rfl)]; exact h3, h4.keep ho hw⟩
  | arr e c ver =>
    obtain ⟨h1, h2, l, cs, h3, h4, h5, h6⟩ := h
    refine ⟨h1, h2, l, cs, h3, h4.keep ho hw, h5, h6.1, ?_⟩
    rcases h6.2 with hn | ⟨g, cap, cur, hv, hb, hg, rest⟩
    · exact .inl hn
    · exact .inr ⟨g, cap, cur, hv, hb, by rw [hm rfl g (Blk_arr.2 (by simp [hv, Value.ownBlock]))]; exact hg, rest⟩
  | fbox t c =>
    obtain ⟨h1, h2, h3, cs, h4, h5⟩ := h
    exact ⟨h1, h2, ho _ h3, cs, h4.keep ho hw, rangeAt_same h5 (hw _ h3)⟩
  | farr e c ver =>
    obtain ⟨h1, h2, h3, h4⟩ := h
    exact ⟨h1, h2, h3.keep ho hw, h4⟩
  | narr e f c ver rv hole =>
    obtain ⟨h1, h2, l, cs, rows, h3, h4, h5, h6, h7, h8, h9⟩ := h
    exact ⟨h1, h2, l, cs, rows, h3, h4, ownsRow.same h5 fun b hb => hm rfl b (Blk_narr.2 (.inl hb)), h6, h7, fun j d r hj hr => (h8 j d r hj hr).keep ho hw fun b hb => hm rfl b (Blk_narr.2 (.inr ⟨rows, h6, j, r, hr, hb⟩)), h9⟩

section
variable {C : Ctx} {w0 : World} {ok0 : Nat → Prop} {ρ : List D} {s : S} {β : Be} {a : Act} {w : World}

theorem okk_size {b : Nat} (h0 : w0.heap.size ≤ w.heap.size) (h : okk C w0 ok0 ρ s β w b) : b < w.heap.size := by
  rcases h with ⟨_, h⟩ | ⟨_, h, _⟩ <;> omega
theorem okk_mut {b : Nat} (h : SimB C w0 ok0 ρ s β a w) (hk : okk C w0 ok0 ρ s β w b) : ¬ Mut C ρ s β b := by
  rcases hk with ⟨_, hb⟩ | ⟨_, _, hm⟩
  · rintro ⟨n, q, o, h1, h2, h3, h4⟩
    have := (h.rng n q o b h1 h2 h3 h4).1
    omega
  · exact hm

/-- A variable is set. -/
theorem SimB.put (h : SimB C w0 ok0 ρ s β a w) {dst : Option Nat} {v : SV} {x : Value} (hd : dstOK s dst = true) (hv : RepSV C ρ β w (okk C w0 ok0 ρ s β w) v x) :
    SimB C w0 ok0 ρ { s with sl := putSl s.sl dst v } β (a.put dst x) w := by
  refine ⟨h.below, ?_, ?_, ?_, h.ob, h.sep, h.rng⟩
  · cases dst <;> simp [Act.put, h.size]
  · cases dst <;> simp [Act.put, h.dfr]
  · intro t u hu
    cases dst with
    | none => exact h.sl t u hu
    | some d =>
      simp only [dstOK, decide_eq_true_eq] at hd
      simp only [putSl, look] at hu
      split at hu
      · rename_i hdt
        subst hdt
        simp only [Option.some.injEq] at hu
        subst hu
        have hds : d < a.tmps.size := by rw [h.size]; exact hd
        simp only [Act.put, Array.getD_eq_getD_getElem?, Array.getElem?_setIfInBounds, if_true, hds, Option.getD_some]
        exact hv
      · rename_i hdt
        have := h.sl t u hu
        simp only [Act.put, Array.getD_eq_getD_getElem?, Array.getElem?_setIfInBounds, if_neg hdt] at this ⊢
        exact this
theorem SimB.setN (h : SimB C w0 ok0 ρ s β a w) (n : Nat) : SimB C w0 ok0 ρ { s with n := n } β a w := ⟨h.below, h.size, h.dfr, h.sl, h.ob, h.sep, h.rng⟩

/-- New blocks alone. -/
theorem SimB.ext (h : SimB C w0 ok0 ρ s β a w) {w' : World} (hb : Below w.heap.size w w') : SimB C w0 ok0 ρ s β a w' := by
  have hs : w0.heap.size ≤ w.heap.size := h.below.size
  have ho : ∀ b, okk C w0 ok0 ρ s β w b → okk C w0 ok0 ρ s β w' b := by
    rintro b (hk | ⟨h1, h2, h3⟩)
    · exact .inl hk
    · exact .inr ⟨h1, Nat.lt_of_lt_of_le h2 hb.size, h3⟩
  have hw : ∀ b, okk C w0 ok0 ρ s β w b → w'.heap[b]? = w.heap[b]? := fun b hk => hb.block b (okk_size hs hk)
  refine ⟨h.below.trans (hb.mono hs), h.size, h.dfr, fun t v hv => (h.sl t v hv).keep ho hw, fun n q o hn hq => (h.ob n q o hn hq).keep ho hw fun hm b hbk => hb.block b (h.rng n q o b hn hq hm hbk).2, h.sep, fun n q o b h1 h2 h3 h4 => ?_⟩
  have := h.rng n q o b h1 h2 h3 h4
  exact ⟨this.1, Nat.lt_of_lt_of_le this.2 hb.size⟩

/-- One object is made, or written. -/
theorem SimB.up1' (h : SimB C w0 ok0 ρ s β a w) {m : Nat} {pc : PC} {o : Ob} {β' : Be} {w' : World} (hpc : pcOK C.G ρ pc = true) (hbel : Below w0.heap.size w0 w') (hsz : w.heap.size ≤ w'.heap.size)
    (old : Nat → Prop) (hold : ∀ b, old b → Mut C ρ s β b ∧ ∀ n q o', look s.ob n = some (q, o') → pcOK C.G ρ q = true → o'.mut = true → Blk β n o' b → n = m)
    (hmem : ∀ b, b < w.heap.size → ¬ old b → w'.heap[b]? = w.heap[b]?)
    (hnew : ∀ b, o.mut = true → Blk β' m o b → (old b ∨ w.heap.size ≤ b) ∧ b < w'.heap.size)
    (hSV : ∀ (ok : Nat → Prop) t v x, look s.sl t = some v → RepSV C ρ β w ok v x → RepSV C ρ β' w ok v x)
    (hOb : ∀ (ok : Nat → Prop) n q o', n ≠ m → look s.ob n = some (q, o') → RepOb C w0 ρ β w ok n o' → RepOb C w0 ρ β' w ok n o')
    (hbk : ∀ n q o', n ≠ m → look s.ob n = some (q, o') → Blk β' n o' = Blk β n o')
    (hR : ∀ ok', (∀ b, okk C w0 ok0 ρ s β w b → ok' b) → (∀ b, w.heap.size ≤ b → b < w'.heap.size → ¬ Blk β' m o b → ok' b) → RepOb C w0 ρ β' w' ok' m o) :
    SimB C w0 ok0 ρ { s with ob := (m, pc, o) :: s.ob } β' a w' := by
  have hs : w0.heap.size ≤ w.heap.size := h.below.size
  have hMut : ∀ b, b < w.heap.size → Mut C ρ { s with ob := (m, pc, o) :: s.ob } β' b → Mut C ρ s β b := by
    rintro b hb ⟨n, q, o', h1, h2, h3, h4⟩
    simp only [look] at h1
    split at h1
    · rename_i hn
      subst hn
      simp only [Option.some.injEq, Prod.mk.injEq] at h1
      obtain ⟨rfl, rfl⟩ := h1
      rcases (hnew b h3 h4).1 with ho | ho
      · exact (hold b ho).1
      · omega
    · rename_i hn
      exact ⟨n, q, o', h1, h2, h3, by rw [← hbk n q o' (Ne.symm hn) h1]; exact h4⟩
  have ho : ∀ b, okk C w0 ok0 ρ s β w b → okk C w0 ok0 ρ { s with ob := (m, pc, o) :: s.ob } β' w' b := by
    rintro b (hk | ⟨h1, h2, h3⟩)
    · exact .inl hk
    · exact .inr ⟨h1, Nat.lt_of_lt_of_le h2 hsz, fun hm => h3 (hMut b h2 hm)⟩
  have hw : ∀ b, okk C w0 ok0 ρ s β w b → w'.heap[b]? = w.heap[b]? := fun b hk => hmem b (okk_size hs hk) fun e => okk_mut h hk (hold b e).1
  have key : ∀ n q o' b, look (((m, pc, o) :: s.ob)) n = some (q, o') → pcOK C.G ρ q = true → o'.mut = true → Blk β' n o' b →
      (n = m ∧ q = pc ∧ o' = o) ∨ (n ≠ m ∧ look s.ob n = some (q, o') ∧ Blk β n o' b) := by
    intro n q o' b h1 h2 h3 h4
    simp only [look] at h1
    split at h1
    · rename_i hn
      simp only [Option.some.injEq, Prod.mk.injEq] at h1
      exact .inl ⟨hn.symm, h1.1.symm, h1.2.symm⟩
    · rename_i hn
      exact .inr ⟨Ne.symm hn, h1, by rw [← hbk n q o' (Ne.symm hn) h1]; exact h4⟩
  refine ⟨hbel, h.size, h.dfr, fun t v hv => (hSV _ t v _ hv (h.sl t v hv)).keep ho hw, ?_, ?_, ?_⟩
  · intro n q o' hn hq
    simp only [look] at hn
    split at hn
    · rename_i hn'
      subst hn'
      simp only [Option.some.injEq, Prod.mk.injEq] at hn
      obtain ⟨rfl, rfl⟩ := hn
      refine hR _ ho fun b hb1 hb2 hb3 => .inr ⟨by omega, hb2, ?_⟩
      rintro ⟨n', q', o', h1, h2, h3, h4⟩
      rcases key n' q' o' b h1 h2 h3 h4 with ⟨rfl, _, rfl⟩ | ⟨hn, h1', h7'⟩
      · exact hb3 h4
      · have := (h.rng n' q' o' b h1' h2 h3 h7').2
        omega
    · rename_i hn'
      refine (hOb _ n q o' (Ne.symm hn') hn (h.ob n q o' hn hq)).keep ho hw fun hm b hb => ?_
      rw [hbk n q o' (Ne.symm hn') hn] at hb
      have := h.rng n q o' b hn hq hm hb
      exact hmem b this.2 fun e => hn' ((hold b e).2 n q o' hn hq hm hb).symm
  · intro n n' q q' o1 o2 b h1 h2 h3 h4 h5 h6 h7 h8
    rcases key n q o1 b h1 h3 h5 h7 with ⟨rfl, rfl, rfl⟩ | ⟨hn, h1', h7'⟩ <;> rcases key n' q' o2 b h2 h4 h6 h8 with ⟨rfl, rfl, rfl⟩ | ⟨hn', h2', h8'⟩
    · rfl
    · exfalso
      have hlt := (h.rng n' q' o2 b h2' h4 h6 h8').2
      rcases (hnew b h5 h7).1 with e | e
      · exact hn' ((hold b e).2 n' q' o2 h2' h4 h6 h8')
      · omega
    · exfalso
      have hlt := (h.rng n q o1 b h1' h3 h5 h7').2
      rcases (hnew b h6 h8).1 with e | e
      · exact hn ((hold b e).2 n q o1 h1' h3 h5 h7')
      · omega
    · exact h.sep n n' q q' o1 o2 b h1' h2' h3 h4 h5 h6 h7' h8'
  · intro n q o1 b h1 h3 h5 h7
    rcases key n q o1 b h1 h3 h5 h7 with ⟨rfl, rfl, rfl⟩ | ⟨hn, h1', h7'⟩
    · refine ⟨?_, (hnew b h5 h7).2⟩
      rcases (hnew b h5 h7).1 with e | e
      · obtain ⟨n', q', o', g1, g2, g3, g4⟩ := (hold b e).1
        exact (h.rng n' q' o' b g1 g2 g3 g4).1
      · omega
    · have := h.rng n q o1 b h1' h3 h5 h7'
      exact ⟨this.1, Nat.lt_of_lt_of_le this.2 hsz⟩

/-- The same, where nothing new is read through the object. -/
theorem SimB.up1 (h : SimB C w0 ok0 ρ s β a w) {m : Nat} {pc : PC} {o : Ob} {β' : Be} {w' : World} (hpc : pcOK C.G ρ pc = true) (hbel : Below w0.heap.size w0 w') (hsz : w.heap.size ≤ w'.heap.size)
    (old : Nat → Prop) (hold : ∀ b, old b → Mut C ρ s β b ∧ ∀ n q o', look s.ob n = some (q, o') → pcOK C.G ρ q = true → o'.mut = true → Blk β n o' b → n = m)
    (hmem : ∀ b, b < w.heap.size → ¬ old b → w'.heap[b]? = w.heap[b]?)
    (hnew : ∀ b, o.mut = true → Blk β' m o b → (old b ∨ w.heap.size ≤ b) ∧ b < w'.heap.size)
    (hSV : ∀ (ok : Nat → Prop) t v x, look s.sl t = some v → RepSV C ρ β w ok v x → RepSV C ρ β' w ok v x)
    (hOb : ∀ (ok : Nat → Prop) n q o', n ≠ m → look s.ob n = some (q, o') → RepOb C w0 ρ β w ok n o' → RepOb C w0 ρ β' w ok n o')
    (hbk : ∀ n q o', n ≠ m → look s.ob n = some (q, o') → Blk β' n o' = Blk β n o')
    (hR : ∀ ok', (∀ b, okk C w0 ok0 ρ s β w b → ok' b) → RepOb C w0 ρ β' w' ok' m o) :
    SimB C w0 ok0 ρ { s with ob := (m, pc, o) :: s.ob } β' a w' :=
  h.up1' hpc hbel hsz old hold hmem hnew hSV hOb hbk fun ok' h1 _ => hR ok' h1

/-! ### Freezing -/
theorem look_putOb {pc : PC} : ∀ {fs : List (Nat × Ob)} {ob : List (Nat × PC × Ob)} {n : Nat}, look (putOb pc fs ob) n = match look fs n with
    | some o => some (pc, o)
    | none => look ob n
  | [], ob, n => rfl
  | (i, o) :: fs, ob, n => by
    have ih := look_putOb (pc := pc) (fs := fs) (ob := ob) (n := n)
    simp only [putOb, List.map_cons, List.cons_append, look] at ih ⊢
    split
    · rfl
    · exact ih
theorem frz_fact {ob : Obs} {all : List Nat} {m i : Nat} {o' : Ob} (h : frz C ob all m = some (i, o')) : i = m ∧ o'.mut = false ∧ ∃ o, ob m = some o ∧ o.mut = true := by
  unfold frz at h
  cases hm : ob m with
  | none => simp [hm] at h
  | some o =>
    rw [hm] at h
    cases o with
    | arr e c ver =>
      simp only [Option.some.injEq, Prod.mk.injEq] at h
      obtain ⟨rfl, rfl⟩ := h
      exact ⟨rfl, rfl, _, rfl, rfl⟩
    | box t v =>
      simp only at h
      split at h
      · split at h
        · simp only [Option.some.injEq, Prod.mk.injEq] at h
          obtain ⟨rfl, rfl⟩ := h
          exact ⟨rfl, rfl, _, rfl, rfl⟩
        · simp at h
      · simp at h
    | narr e f c ver rv hole =>
      cases hole with
      | none =>
        simp only [Option.some.injEq, Prod.mk.injEq] at h
        obtain ⟨rfl, rfl⟩ := h
        exact ⟨rfl, rfl, _, rfl, rfl⟩
      | some y => simp at h
    | fbox _ _ => simp at h
    | farr _ _ _ => simp at h
theorem frzs_look {ob : Obs} {all : List Nat} : ∀ {ns : List Nat} {fs : List (Nat × Ob)}, frzs C ob all ns = some fs → ∀ {n o}, look fs n = some o → n ∈ ns ∧ frz C ob all n = some (n, o)
  | [], fs, h, n, o, hl => by simp only [frzs, Option.some.injEq] at h; subst h; simp [look] at hl
  | m :: ns, fs, h, n, o, hl => by
    simp only [frzs] at h
    cases h1 : frz C ob all m with
    | none => simp [h1] at h
    | some x =>
      cases h2 : frzs C ob all ns with
      | none => simp [h1, h2] at h
      | some r =>
        simp only [h1, h2, Option.some.injEq] at h
        subst h
        obtain ⟨i, o'⟩ := x
        have hi : i = m := (frz_fact h1).1
        subst hi
        simp only [look] at hl
        split at hl
        · rename_i hn
          subst hn
          simp only [Option.some.injEq] at hl
          subst hl
          exact ⟨List.mem_cons_self .., h1⟩
        · have := frzs_look h2 hl
          exact ⟨List.mem_cons_of_mem _ this.1, this.2⟩
theorem frzs_all {ob : Obs} {all : List Nat} : ∀ {ns : List Nat} {fs : List (Nat × Ob)}, frzs C ob all ns = some fs → ∀ n ∈ ns, ∃ o, look fs n = some o
  | [], fs, h, n, hn => by simp at hn
  | m :: ns, fs, h, n, hn => by
    simp only [frzs] at h
    cases h1 : frz C ob all m with
    | none => simp [h1] at h
    | some x =>
      cases h2 : frzs C ob all ns with
      | none => simp [h1, h2] at h
      | some r =>
        simp only [h1, h2, Option.some.injEq] at h
        subst h
        obtain ⟨i, o'⟩ := x
        simp only [look]
        split
        · exact ⟨_, rfl⟩
        · rename_i hi
          rcases List.mem_cons.1 hn with rfl | hn
          · exfalso
            exact hi (frz_fact h1).1
          · exact frzs_all h2 n hn

theorem obsOf_some {pc : PC} {n : Nat} {o : Ob} (h : obsOf s pc n = some o) : ∃ q, look s.ob n = some (q, o) ∧ subPC q pc = true := by
  unfold obsOf at h
  cases hl : look s.ob n with
  | none => simp [hl] at h
  | some x =>
    obtain ⟨q, o'⟩ := x
    simp only [hl] at h
    split at h
    · rename_i hs; simp only [Option.some.injEq] at h; subst h; exact ⟨q, rfl, hs⟩
    · simp at h

/-- All of a closed set are frozen at once; 'ob': the objects that the program looked at. -/
theorem SimB.freeze (H : COK C) (h : SimB C w0 ok0 ρ s β a w) {pc : PC} (hpc : pcOK C.G ρ pc = true) {ob : Obs} (hob : ∀ m o, ob m = some o → obsOf s pc m = some o) {ns : List Nat} {fs : List (Nat × Ob)} (hf : frzs C ob ns ns = some fs) :
    SimB C w0 ok0 ρ { s with ob := putOb pc fs s.ob } β a w ∧ (∀ b, ok2 β (okk C w0 ok0 ρ s β w) ob ns b → okk C w0 ok0 ρ { s with ob := putOb pc fs s.ob } β w b) := by
  have hs : w0.heap.size ≤ w.heap.size := h.below.size
  -- what is frozen was there, and may have been written
  have was : ∀ n ∈ ns, ∃ q o, look s.ob n = some (q, o) ∧ pcOK C.G ρ q = true ∧ ob n = some o ∧ ∃ o', look fs n = some o' ∧ frz C ob ns n = some (n, o') := by
    intro n hn
    obtain ⟨o', ho'⟩ := frzs_all hf n hn
    have hz := (frzs_look hf ho').2
    cases hb : ob n with
    | none => unfold frz at hz; simp [hb] at hz
    | some o =>
      obtain ⟨q, h1, h2⟩ := obsOf_some (hob n o hb)
      exact ⟨q, o, h1, subPC_ok h2 hpc, rfl, o', ho', hz⟩
  have notmut : ∀ n o, look fs n = some o → o.mut = false := by
    intro n o hn
    exact (frz_fact (frzs_look hf hn).2).2.1
  have hMut : ∀ b, Mut C ρ { s with ob := putOb pc fs s.ob } β b → Mut C ρ s β b ∧ ∀ n ∈ ns, ∀ o, ob n = some o → ¬ Blk β n o b := by
    rintro b ⟨n, q, o, h1, h2, h3, h4⟩
    rw [look_putOb] at h1
    cases hl : look fs n with
    | some o' =>
      simp only [hl, Option.some.injEq, Prod.mk.injEq] at h1
      obtain ⟨_, rfl⟩ := h1
      rw [notmut n _ hl] at h3
      simp at h3
    | none =>
      simp only [hl] at h1
      refine ⟨⟨n, q, o, h1, h2, h3, h4⟩, fun n' hn' o' ho' he => ?_⟩
      obtain ⟨q', o'', g1, g2, g3, o3, g4, g5⟩ := was n' hn'
      rw [ho'] at g3
      simp only [Option.some.injEq] at g3
      subst g3
      have hm' : o'.mut = true := by
        obtain ⟨_, _, o2, y1, y2⟩ := frz_fact g5
        rw [ho'] at y1
        simp only [Option.some.injEq] at y1
        rw [y1]
        exact y2
      have := h.sep n n' q q' o o' b h1 g1 h2 g2 h3 hm' h4 he
      subst this
      rw [hl] at g4
      simp at g4
  have ho2 : ∀ b, ok2 β (okk C w0 ok0 ρ s β w) ob ns b → okk C w0 ok0 ρ { s with ob := putOb pc fs s.ob } β w b := by
    rintro b (hk | ⟨n, hn, o, h1, h2⟩)
    · rcases hk with hk | ⟨g1, g2, g3⟩
      · exact .inl hk
      · exact .inr ⟨g1, g2, fun hm => g3 (hMut b hm).1⟩
    · obtain ⟨q, o', g1, g2, g3, o3, g4, g5⟩ := was n hn
      rw [h1] at g3
      simp only [Option.some.injEq] at g3
      subst g3
      have hm' : o.mut = true := by
        obtain ⟨_, _, o2, y1, y2⟩ := frz_fact g5
        rw [h1] at y1
        simp only [Option.some.injEq] at y1
        rw [y1]
        exact y2
      have := h.rng n q o b g1 g2 hm' h2
      exact .inr ⟨this.1, this.2, fun hm => (hMut b hm).2 n hn o h1 h2⟩
  have ho : ∀ b, okk C w0 ok0 ρ s β w b → okk C w0 ok0 ρ { s with ob := putOb pc fs s.ob } β w b := fun b hb => ho2 b (.inl hb)
  refine ⟨⟨h.below, h.size, h.dfr, fun t v hv => (h.sl t v hv).keep ho fun _ _ => rfl, ?_, ?_, ?_⟩, ho2⟩
  · intro n q o hn hq
    rw [look_putOb] at hn
    cases hl : look fs n with
    | none =>
      simp only [hl] at hn
      exact (h.ob n q o hn hq).keep ho (fun _ _ => rfl) fun _ _ _ => rfl
    | some o' =>
      simp only [hl, Option.some.injEq, Prod.mk.injEq] at hn
      obtain ⟨rfl, rfl⟩ := hn
      obtain ⟨hmem, hz⟩ := frzs_look hf hl
      obtain ⟨q', o0, g1, g2, g3, _⟩ := was n hmem
      have R := h.ob n q' o0 g1 g2
      unfold frz at hz
      rw [g3] at hz
      cases o0 with
      | arr e c ver =>
        simp only [Option.some.injEq, Prod.mk.injEq, true_and] at hz
        subst hz
        obtain ⟨r1, r2, l, cs, r3, r4, r5, r6⟩ := R
        refine ⟨r1, r2, ?_, ?_, ?_⟩
        · rw [r3]
          exact arr_data r6 r4 r5 ho fun b hb => ho2 b (.inr ⟨n, hmem, _, g3, .inl hb⟩)
        · obtain ⟨a', c', hv⟩ := ownsRow_slice r6
          exact ⟨_, _, _, hv⟩
        · intro b o l' c' hv
          rcases r6.2 with ⟨hv', _⟩ | ⟨g, cap, cur, hv', _⟩
          · rw [hv] at hv'; simp at hv'
          · rw [hv] at hv'
            simp only [Value.slice.injEq, Option.some.injEq, Addr.mk.injEq, and_true] at hv'
            exact hv'.1.2
      | box t v =>
        cases hd : toD C ob depth (C.kd t) v with
        | none => simp [hd] at hz
        | some x =>
          obtain ⟨e, ns'⟩ := x
          simp only [hd] at hz
          split at hz
          · rename_i hsub
            simp only [Option.some.injEq, Prod.mk.injEq, true_and] at hz
            subst hz
            obtain ⟨r1, r2, cs, E, r3, r4⟩ := R
            have hobR : ∀ m o, ob m = some o → RepOb C w0 ρ β w (okk C w0 ok0 ρ s β w) m o := fun m o hm => by
              obtain ⟨q2, g1', g2'⟩ := obsOf_some (hob m o hm)
              exact h.ob m q2 o g1' (subPC_ok g2' hpc)
            have hd' := (toD_all H hobR depth).1 _ _ _ _ _ hd r4
            have hsub' : ∀ m ∈ ns', m ∈ ns := fun m hm => by
              have := List.all_eq_true.1 hsub m hm
              simpa using this
            exact ⟨r1, r2, ho2 _ (.inr ⟨n, hmem, _, g3, .inl rfl⟩), cs, hd'.keep (fun b hb => ho2 b (ok2_mono hsub' b hb)) fun _ _ => rfl, heap_range r3⟩
          · simp at hz
      | narr e f c ver rv hole =>
        cases hole with
        | some y => simp at hz
        | none =>
          simp only [Option.some.injEq, Prod.mk.injEq, true_and] at hz
          subst hz
          obtain ⟨r1, r2, l, cs, rows, r3, r4, r5, r6, r7, r8, _⟩ := R
          refine ⟨r1, r2, ?_, ?_, ?_⟩
          · rw [r3]
            have hl := narr_repL r5.1 r7 r8 ho fun j r b hr hb => ho2 b (.inr ⟨n, hmem, _, g3, .inr ⟨rows, r6, j, r, hr, hb⟩⟩)
            exact arr_data r5 hl r4 (fun b hb => hb) fun b hb => ho2 b (.inr ⟨n, hmem, _, g3, .inl hb⟩)
          · obtain ⟨a', c', hv⟩ := ownsRow_slice r5
            exact ⟨_, _, _, hv⟩
          · intro b o l' c' hv
            rcases r5.2 with ⟨hv', _⟩ | ⟨g, cap, cur, hv', _⟩
            · rw [hv] at hv'; simp at hv'
            · rw [hv] at hv'
              simp only [Value.slice.injEq, Option.some.injEq, Addr.mk.injEq, and_true] at hv'
              exact hv'.1.2
      | fbox _ _ => simp at hz
      | farr _ _ _ => simp at hz
  · intro n m q q' o o' b h1 h2 h3 h4 h5 h6 h7 h8
    rw [look_putOb] at h1 h2
    cases hl : look fs n with
    | some x => simp only [hl, Option.some.injEq, Prod.mk.injEq] at h1; rw [← h1.2, notmut n _ hl] at h5; simp at h5
    | none =>
      cases hl' : look fs m with
      | some x => simp only [hl', Option.some.injEq, Prod.mk.injEq] at h2; rw [← h2.2, notmut m _ hl'] at h6; simp at h6
      | none =>
        simp only [hl] at h1
        simp only [hl'] at h2
        exact h.sep n m q q' o o' b h1 h2 h3 h4 h5 h6 h7 h8
  · intro n q o b h1 h3 h5 h7
    rw [look_putOb] at h1
    cases hl : look fs n with
    | some x => simp only [hl, Option.some.injEq, Prod.mk.injEq] at h1; rw [← h1.2, notmut n _ hl] at h5; simp at h5
    | none =>
      simp only [hl] at h1
      exact h.rng n q o b h1 h3 h5 h7
end
end Sy
