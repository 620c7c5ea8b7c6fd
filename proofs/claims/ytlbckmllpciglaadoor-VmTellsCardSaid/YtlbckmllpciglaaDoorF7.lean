/- The framework, part 7: SyPrim, SyRead, SyRow, SyLaw, VmT -/
import Derived.Test.YtlbckmllpciglaaDoorF6
import Derived.Lib.Bytealg
import Derived.ProofKit
import Derived.LaidMore
import Derived.OpenShut
import Derived.SizedLaws
import Derived.IntWalk
set_option linter.unusedVariables false
set_option linter.unusedSimpArgs false
set_option linter.all false

/- Functions that are told by hand. -/
namespace Sy
open Go Go.RowKit

theorem compare_range : ∀ (a b : List UInt8), -1 ≤ Lib.compareBytes a b ∧ Lib.compareBytes a b ≤ 1 := by
  intro a b
  fun_induction Lib.compareBytes a b <;> omega
/-- Two strings compared. -/
def cmpF : List D → Option (List D)
  | [.str a, .str b] => some [.int (Lib.compareBytes a b)]
  | _ => none
theorem cmp_sound {C : Ctx} {f : Nat} (hsg : C.sigs f = some ⟨[.str, .str], [.int .i64], [false]⟩)
    (h : ∀ a b w, Calls C.P f #[.string a, .string b] w fun e w' => e = .returned (.int .i64 (Lib.compareBytes a.data.toList b.data.toList)) ∧ w' = w) : Sound C f cmpF := by
  intro sg hs ds rs hr w ok vs HG Hok hvs
  rw [hsg] at hs
  simp only [Option.some.injEq] at hs
  subst hs
  cases hvs with
  | cons h1 hl =>
    cases hl with
    | cons h2 hl =>
      cases hl with
      | nil =>
        cases h1 with
        | str g1 =>
          cases h2 with
          | str g2 =>
            rename_i a b
            simp only [cmpF, Option.some.injEq] at hr
            subst hr
            refine (h ⟨a.toArray⟩ ⟨b.toArray⟩ w).mono ?_
            rintro e w' ⟨rfl, rfl⟩
            have hr := compare_range a b
            exact ⟨fun _ => False, [.int .i64 (Lib.compareBytes a b)], rfl, Below.refl _ _, fun b hb => hb.elim, .dat rfl (RepV.mkInt ⟨by show -9223372036854775808 ≤ _; omega, by show _ ≤ 9223372036854775807; omega⟩) .nil⟩
end Sy

/- What is read of memory lies in memory as data: from the rows' readings to the framework's. -/
namespace Sy
open Go Go.RowKit Go.ChangeShapes

/-- Types without functions, with all that they hold. -/
def closedB (C : Ctx) (S : List Nat) : Bool := S.all fun t => match C.te t with
  | some e => decide (1 ≤ e.bytes) && (match e.td with
    | .int _ | .bool | .str => true
    | .slice x | .ptr x | .arr _ x => S.contains x
    | .struct fs => fs.all fun f => S.contains f
    | .func _ _ => false)
  | none => false

variable {H : Type}
mutual
/-- What is read, as data. -/
def ofW (C : Ctx) : Nat → DataW H → D
  | _, .lit (.int _ n) => .int n
  | _, .lit (.bool b) => .bool b
  | _, .lit (.string s) => .str s
  | t, .nil => match C.kd t with
    | .slice _ => .list []
    | _ => .nil
  | t, .ptr d => match C.kd t with
    | .ptr e => .ptr (ofW C e d)
    | _ => .nil
  | t, .slice l _ => match C.kd t with
    | .slice e => .list (ofWs C e l)
    | _ => .nil
  | t, .agg l => match C.fields t with
    | some fs => .agg (ofWf C fs l)
    | none => match C.arrOf t with
      | some (_, e) => .agg (ofWs C e l)
      | none => .nil
  | _, _ => .nil
def ofWs (C : Ctx) : Nat → List (DataW H) → List D
  | _, [] => []
  | t, d :: l => ofW C t d :: ofWs C t l
def ofWf (C : Ctx) : List Nat → List (DataW H) → List D
  | t :: ts, d :: l => ofW C t d :: ofWf C ts l
  | _, _ => []
end

variable {C : Ctx} {w : World} {enc : TypeId × Value → H} {base : Nat} {spare : Nat → Bool} {held : Bool}
def okW (w : World) (b : Nat) : Prop := b < w.heap.size

theorem cell_spot {a : Addr} {v : Value} (h : w.cell? a = some v) : a.spot = none ∧ a.block < w.heap.size := by
  unfold World.cell? at h
  split at h
  · rename_i c e f hc
    split at h
    · simp at h
    · rename_i hs
      refine ⟨by simpa using hs, ?_⟩
      rcases Nat.lt_or_ge a.block w.heap.size with g | g
      · exact g
      · rw [Array.getElem?_eq_none g] at hc; simp at hc
  · simp at h
theorem cells_range {a : Addr} {n : Nat} {cs : List Value} (hn : 0 < n) (h : w.cells? base a n = some cs) : a.spot = none ∧ a.block < w.heap.size ∧ cs.length = n ∧ w.rangeAt a.block a.off cs := by
  unfold World.cells? at h
  split at h
  · have hl := mapM_some_length h
    rw [List.length_range] at hl
    have hg := fun i (hi : i < n) => mapM_some_get h i i (by simp [hi])
    have h0 := hg 0 hn
    have hc0 : ∃ v, cs[0]? = some v := ⟨cs[0]'(by omega), List.getElem?_eq_getElem _⟩
    obtain ⟨v, hv⟩ := hc0
    rw [hv] at h0
    obtain ⟨s1, s2⟩ := cell_spot h0
    have s1' : a.spot = none := by
      unfold Addr.add at s1
      exact s1
    have s2' : a.block < w.heap.size := by
      unfold Addr.add at s2
      exact s2
    refine ⟨s1', s2', hl, fun j u hu => ?_⟩
    have hj : j < n := by
      rcases Nat.lt_or_ge j n with g | g
      · exact g
      · rw [List.getElem?_eq_none (by omega)] at hu; simp at hu
    have := hg j hj
    rw [hu] at this
    have e : (⟨a.block, a.off + j, none⟩ : Addr) = a.add j := by
      obtain ⟨b, o, s⟩ := a
      simp only at s1'
      subst s1'
      simp [Addr.add]
    rw [e]
    exact this
  · simp at h

theorem cellsOf_tsz (HC : COK C) {t : Nat} (ht : inTab C t = true) : C.P.cellsOf t = C.tsz t := by
  obtain ⟨i, h1, h2, _⟩ := info_fact HC ht
  unfold Program.cellsOf
  rw [h1]
  exact h2

theorem add_parts (a : Addr) (n : Nat) : (a.add n).block = a.block ∧ (a.add n).off = a.off + n := by
  unfold Addr.add
  split
  · rename_i h; subst h; simp
  · simp
theorem weightsAll_mem {P : Program} {e : TypeId} : ∀ {l : List (DataW H)} {d : DataW H} {n : Nat}, d ∈ l → n ∈ d.weights P e → n ∈ DataW.weightsAll P e l
  | [], d, n, h, _ => by simp at h
  | x :: l, d, n, h, hn => by
    unfold DataW.weightsAll
    rcases List.mem_cons.1 h with rfl | h
    · exact List.mem_append_left _ hn
    · exact List.mem_append_right _ (weightsAll_mem h hn)

/-- The elements of a row. -/
theorem rows_rep {e sz : Nat} (hsz : 0 < sz) {a : Addr} : ∀ (elems : List (DataW H × List MemPlace)) (k : Nat),
    (∀ (i : Nat) (x : DataW H × List MemPlace), elems[i]? = some x → ∃ cs, w.cells? base (a.add ((k + i) * sz)) sz = some cs ∧ RepC C w (okW w) (C.kd e) (ofW C e x.1) cs) →
    ∃ cs, RepL C w (okW w) (C.kd e) (ofWs C e (elems.map (·.1))) cs ∧ (∀ j v, cs[j]? = some v → w.cell? ⟨a.block, a.off + k * sz + j, none⟩ = some v) ∧ cs.length = elems.length * sz
  | [], k, _ => ⟨[], .nil, by simp, by simp⟩
  | x :: elems, k, h => by
    obtain ⟨c0, h1, h2⟩ := h 0 x rfl
    obtain ⟨_, _, hlen, hr⟩ := cells_range hsz h1
    obtain ⟨cs, g1, g2, g3⟩ := rows_rep hsz elems (k + 1) (fun i y hy => by
      obtain ⟨cs, j1, j2⟩ := h (i + 1) y (by simpa using hy)
      exact ⟨cs, by rw [show k + 1 + i = k + (i + 1) by omega]; exact j1, j2⟩)
    obtain ⟨p1, p2⟩ := add_parts a ((k + 0) * sz)
    rw [p1, p2] at hr
    refine ⟨c0 ++ cs, .cons h2 g1, fun j v hv => ?_, ?_⟩
    · rw [List.getElem?_append] at hv
      split at hv
      · have := hr j v hv
        simpa using this
      · have := g2 (j - c0.length) v hv
        rw [hlen] at this
        rw [← this, Nat.add_mul]
        congr 2
        omega
    · rw [List.length_append, g3, hlen, List.length_cons, Nat.add_mul]
      omega

/-- The fields of a struct. -/
theorem fields_rep {cs : List Value} : ∀ (gs : List Field) (ts : List Nat) (o : Nat) (xs : List (DataW H × List MemPlace)), offsOK C gs ts o = true → cs.length = o + sumSz C ts → xs.length = gs.length →
    (∀ (i : Nat) (f : Field) (x : DataW H × List MemPlace), gs[i]? = some f → xs[i]? = some x → RepC C w (okW w) (C.kd f.type) (ofW C f.type x.1) ((cs.drop f.offset).take (C.tsz f.type))) → RepF C w (okW w) ts (ofWf C ts (xs.map (·.1))) (cs.drop o)
  | [], [], o, xs, _, hl, hx, _ => by
    have : xs = [] := List.eq_nil_of_length_eq_zero (by simpa using hx)
    subst this
    simp only [sumSz, Nat.add_zero] at hl
    rw [List.drop_eq_nil_of_le (by omega)]
    exact .nil
  | [], _ :: _, o, xs, h, _, _, _ => by simp [offsOK] at h
  | _ :: _, [], o, xs, h, _, _, _ => by simp [offsOK] at h
  | f :: gs, t :: ts, o, [], _, _, hx, _ => by simp at hx
  | f :: gs, t :: ts, o, x :: xs, h, hl, hx, hr => by
    simp only [offsOK, Bool.and_eq_true, decide_eq_true_eq] at h
    obtain ⟨⟨⟨⟨h1, h2⟩, h3⟩, _⟩, h4⟩ := h
    have h0 := hr 0 f x rfl rfl
    rw [h1, h2] at h0
    have hrest := fields_rep gs ts (o + C.tsz t) xs h4 (by simp only [sumSz] at hl; omega) (by simpa using hx) (fun i f' x' a b => hr (i + 1) f' x' (by simpa using a) (by simpa using b))
    have e : cs.drop o = (cs.drop o).take (C.tsz t) ++ cs.drop (o + C.tsz t) := by
      rw [← List.drop_drop, List.take_append_drop]
    rw [e]
    exact .cons h0 hrest

/-- The elements of an array. -/
theorem chunks_rep {e sz : Nat} {cs : List Value} : ∀ (xs : List (DataW H × List MemPlace)) (k : Nat), cs.length = (k + xs.length) * sz →
    (∀ (i : Nat) (x : DataW H × List MemPlace), xs[i]? = some x → RepC C w (okW w) (C.kd e) (ofW C e x.1) ((cs.drop ((k + i) * sz)).take sz)) → RepL C w (okW w) (C.kd e) (ofWs C e (xs.map (·.1))) (cs.drop (k * sz))
  | [], k, hl, _ => by
    rw [List.drop_eq_nil_of_le (by simp at hl; omega)]
    exact .nil
  | x :: xs, k, hl, hr => by
    have h0 := hr 0 x rfl
    have hrest := chunks_rep xs (k + 1) (by rw [hl]; congr 1; simp; omega) (fun i y hy => by
      have := hr (i + 1) y (by simpa using hy)
      rw [show k + 1 + i = k + (i + 1) by omega]
      exact this)
    have e : cs.drop (k * sz) = (cs.drop (k * sz)).take sz ++ cs.drop ((k + 1) * sz) := by
      rw [Nat.add_mul, Nat.one_mul, ← List.drop_drop, List.take_append_drop]
    rw [e]
    exact .cons h0 hrest

theorem bytesOf_pos (HC : COK C) {t : Nat} {e : TE} (h : look C.tys t = some e) (hb : 1 ≤ e.bytes) : 1 ≤ C.P.bytesOf t := by
  obtain ⟨i, h1, _, h3⟩ := (HC.fact h).info
  unfold Program.bytesOf
  rw [h1]
  simp only [Option.map_some, Option.getD_some]
  omega

def kdOf (t : Nat) : TD → K
  | .int k => .int k
  | .bool => .bool
  | .str => .str
  | .slice e => .slice e
  | .struct _ => .struct t
  | .arr _ _ => .arr t
  | .ptr e => .ptr e
  | .func _ _ => .func t
theorem kdOf_eq {t sz b : Nat} {td : TD} (h : look C.tys t = some ⟨td, sz, b⟩) : C.kd t = kdOf t td := by
  unfold Ctx.kd
  rw [h]
  cases td <;> rfl
/-- What is read lies in memory. -/
theorem trod_rep (HC : COK C) {S : List Nat} (hS : closedB C S = true) : ∀ (fuel : Nat) (t : Nat) (cs : List Value) (x : DataW H × List MemPlace), t ∈ S → DataW.trod enc C.P w base spare held fuel t cs = some x → (∀ n ∈ x.1.weights C.P t, n ≤ reachBytes) →
    RepC C w (okW w) (C.kd t) (ofW C t x.1) cs
  | 0, t, cs, x, _, h, _ => by simp [DataW.trod] at h
  | fuel + 1, t, cs, x, ht, h, hw => by
    have hcl := List.all_eq_true.1 hS t ht
    cases hl : look C.tys t with
    | none =>
      have : C.te t = none := hl
      simp [this] at hcl
    | some te =>
      have hte : C.te t = some te := hl
      have F := HC.fact hl
      have hin : inTab C t = true := by unfold inTab; rw [hte]; rfl
      obtain ⟨td, sz, by_⟩ := te
      simp only [hte, Bool.and_eq_true, decide_eq_true_eq] at hcl
      obtain ⟨hby, hcl⟩ := hcl
      have hkd : C.kd t = kdOf t td := kdOf_eq hl
      cases td with
      | int k =>
        obtain ⟨n, rfl, rfl, hwf⟩ := DataW.trod_int (F.int k rfl).1 h
        rw [hkd]
        simp only [Lit.wf, Bool.and_eq_true, decide_eq_true_eq] at hwf
        exact .int hwf
      | bool =>
        obtain ⟨b, rfl, rfl⟩ := DataW.trod_bool (F.bool rfl).1 h
        rw [hkd]
        exact .bool
      | str =>
        obtain ⟨s, rfl, rfl, hs⟩ := DataW.trod_string (F.str rfl).1 h
        rw [hkd]
        have := hw s.data.toList.length (by simp [DataW.weights])
        exact .str (by unfold reachBytes at this; omega)
      | slice e =>
        have hu := (F.slice e rfl).1
        have hin_e := (F.slice e rfl).2.2
        have heS : e ∈ S := by simpa using hcl
        rw [hkd]
        rcases DataW.trod_slice hu h with ⟨rfl, rfl⟩ | ⟨a, len, cap, elems, rest, n, hn, rfl, rfl, hb, hlc, hcm, hlen, hel, hr1, hr2⟩
        · simp only [ofW, hkd]
          exact .nils
        · have hfn : fuel = n := by omega
          subst hfn
          simp only [ofW, hkd]
          have hsz := tsz_pos HC hin_e
          have hcell := cellsOf_tsz HC hin_e
          rw [hcell] at hel
          have hwe : ∀ y ∈ elems, ∀ m ∈ y.1.weights C.P e, m ≤ reachBytes := by
            intro y hy m hm
            apply hw
            simp only [DataW.weights, hu, List.mem_cons, List.mem_append]
            exact .inr (.inl (weightsAll_mem (List.mem_map.2 ⟨y, hy, rfl⟩) hm))
          obtain ⟨cs, g1, g2, g3⟩ := rows_rep (C := C) (base := base) (e := e) hsz (a := a) elems 0 (by
            intro i y hy
            have hi : i < len := by
              rw [← hlen]
              rcases Nat.lt_or_ge i elems.length with g | g
              · exact g
              · rw [List.getElem?_eq_none g] at hy; simp at hy
            have := hel i hi
            rw [hy, Option.bind_eq_some_iff] at this
            obtain ⟨c1, j1, j2⟩ := this
            refine ⟨c1, by rw [Nat.zero_add]; exact j1, trod_rep HC hS fuel e c1 y heS j2 (hwe y (List.mem_of_getElem? hy))⟩)
          have hlw := hw ((elems.length + rest.length) * C.P.bytesOf e) (by simp [DataW.weights, hu])
          obtain ⟨ee, hee⟩ : ∃ ee, look C.tys e = some ee := by
            unfold inTab Ctx.te at hin_e
            exact Option.isSome_iff_exists.1 hin_e
          have hcle := List.all_eq_true.1 hS e heS
          have hbe : 1 ≤ ee.bytes := by
            have : C.te e = some ee := hee
            simp only [this, Bool.and_eq_true, decide_eq_true_eq] at hcle
            exact hcle.1
          have hbp := bytesOf_pos HC hee hbe
          have hmul : elems.length ≤ (elems.length + rest.length) * C.P.bytesOf e := by
            have := Nat.le_mul_of_pos_right (elems.length + rest.length) hbp
            omega
          have hbig : elems.length ≤ 140737488355328 := by unfold reachBytes at hlw; omega
          rcases Nat.eq_zero_or_pos len with h0 | hpos
          · have : elems = [] := List.eq_nil_of_length_eq_zero (by omega)
            subst this
            subst h0
            exact .nils
          · have hx0 : ∃ y, elems[0]? = some y := ⟨elems[0]'(by omega), List.getElem?_eq_getElem _⟩
            obtain ⟨y0, hy0⟩ := hx0
            have := hel 0 hpos
            rw [hy0, Option.bind_eq_some_iff] at this
            obtain ⟨c1, j1, _⟩ := this
            obtain ⟨s1, s2, _, _⟩ := cells_range hsz j1
            have ea : a.add (0 * C.tsz e) = a := by rw [Nat.zero_mul]; simp [Addr.add]
            rw [ea] at s1 s2
            obtain ⟨b, o, sp⟩ := a
            simp only at s1 s2
            subst s1
            have hll : (ofWs C e (elems.map (·.1))).length = len := by
              have := RepL.len HC g1
              rw [g3, kd_size HC hin_e] at this
              have := Nat.eq_of_mul_eq_mul_right hsz this
              omega
            rw [← hll]
            refine .slice (by intro hnil; rw [hnil] at hll; simp at hll; omega) s2 (by omega) (by omega) (by unfold maxLen at hcm; omega) g1 fun j v hv => ?_
            have := g2 j v hv
            simpa using this
      | struct fs =>
        obtain ⟨gs, hu, hoff, hsz, _⟩ := F.struct fs rfl
        obtain ⟨xs, n, hn, rfl, hlen, hxl, hfx⟩ := DataW.trod_struct hu h
        have hfn : fuel = n := by omega
        subst hfn
        have hf : C.fields t = some fs := by unfold Ctx.fields; rw [hl]
        rw [hkd]
        simp only [ofW, hf]
        have hcell := cellsOf_tsz HC hin
        have htsz : C.tsz t = sumSz C fs := by unfold Ctx.tsz; rw [hl]; exact hsz
        have hall : ∀ f ∈ fs, f ∈ S := by
          intro f hf'
          have := List.all_eq_true.1 hcl f hf'
          simpa using this
        have hoffs : ∀ (gl : List Field) (tl : List Nat) (o : Nat), offsOK C gl tl o = true → ∀ f ∈ gl, f.type ∈ tl := by
          intro gl
          induction gl with
          | nil => intro tl o _ f hf'; simp at hf'
          | cons g gl ih =>
            intro tl o ho f hf'
            cases tl with
            | nil => simp [offsOK] at ho
            | cons t tl =>
              simp only [offsOK, Bool.and_eq_true, decide_eq_true_eq] at ho
              rcases List.mem_cons.1 hf' with rfl | hf'
              · rw [ho.1.1.1.1]; exact List.mem_cons_self ..
              · exact List.mem_cons_of_mem _ (ih tl _ ho.2 f hf')
        have := fields_rep (C := C) (w := w) (cs := cs) gs.toList fs 0 xs hoff (by rw [hlen, hcell, htsz]; omega) (by simpa using hxl) (by
          intro i f x hfi hxi
          have hfi' : gs[i]? = some f := by simpa using hfi
          have hx := hfx i f hfi'
          rw [hxi] at hx
          have hmem : f ∈ gs.toList := List.mem_of_getElem? hfi
          have hfS := hall _ (hoffs _ _ _ hoff f hmem)
          have hinf := offs_in hoff f.type (hoffs _ _ _ hoff f hmem)
          rw [cellsOf_tsz HC hinf] at hx
          refine trod_rep HC hS fuel f.type _ x hfS hx fun m hm => hw m ?_
          simp only [DataW.weights, hu]
          refine DataW.weights_mem_each (j := i) (t := f.type) (d := x.1) ?_ ?_ m hm
          · rw [List.getElem?_map, hfi]; rfl
          · rw [List.getElem?_map, hxi]; rfl)
        exact .struct hf (by simpa using this)
      | arr n e =>
        obtain ⟨hu, hsz, hin_e⟩ := F.arr n e rfl
        obtain ⟨xs, m, hm, rfl, hlen, hxl, hel⟩ := DataW.trod_array hu h
        have hfn : fuel = m := by omega
        subst hfn
        have heS : e ∈ S := by simpa using hcl
        have hf : C.fields t = none := by unfold Ctx.fields; rw [hl]
        have ha : C.arrOf t = some (n, e) := by unfold Ctx.arrOf; rw [hl]
        rw [hkd]
        simp only [ofW, hf, ha]
        have hcell := cellsOf_tsz HC hin
        have hcelle := cellsOf_tsz HC hin_e
        have htsz : C.tsz t = n * C.tsz e := by unfold Ctx.tsz; rw [hl]; exact hsz
        have hR := chunks_rep (C := C) (w := w) (e := e) (sz := C.tsz e) (cs := cs) xs 0 (by rw [hlen, hcell, htsz, hxl, Nat.zero_add]) (by
          intro i x hxi
          have hi : i < n := by
            rw [← hxl]
            rcases Nat.lt_or_ge i xs.length with g | g
            · exact g
            · rw [List.getElem?_eq_none g] at hxi; simp at hxi
          have := hel i hi
          rw [hxi, hcelle] at this
          rw [Nat.zero_add]
          refine trod_rep HC hS fuel e _ x heS this fun m hm => hw m ?_
          simp only [DataW.weights, hu]
          exact weightsAll_mem (List.mem_map.2 ⟨x, List.mem_of_getElem? hxi, rfl⟩) hm)
        rw [Nat.zero_mul, List.drop_zero] at hR
        refine .arr ha ?_ hR
        have := RepL.len HC hR
        rw [hlen, hcell, htsz, kd_size HC hin_e] at this
        exact (Nat.eq_of_mul_eq_mul_right (tsz_pos HC hin_e) this).symm
      | ptr e =>
        have hu := (F.ptr e rfl).1
        have hin_e := (F.ptr e rfl).2.2
        have heS : e ∈ S := by simpa using hcl
        rw [hkd]
        rcases DataW.trod_pointer hu h with ⟨rfl, rfl⟩ | ⟨a, cs', y, n, hn, rfl, rfl, hc, hy⟩
        · simp only [ofW, hkd]
          exact .nilp
        · have hfn : fuel = n := by omega
          subst hfn
          simp only [ofW, hkd]
          rw [cellsOf_tsz HC hin_e] at hc
          obtain ⟨s1, s2, _, s4⟩ := cells_range (tsz_pos HC hin_e) hc
          obtain ⟨b, o, sp⟩ := a
          simp only at s1 s2 s4
          subst s1
          refine .ptr s2 (trod_rep HC hS fuel e cs' y heS hy fun m hm => hw m ?_) s4
          simp only [DataW.weights, hu]
          exact hm
      | func ps rs => simp at hcl
end Sy

/- A law's row: out of what its function answers. -/
namespace Sy
open Go Go.RowKit Go.ChangeShapes Go.WideShapes

section
variable {H : Type} {C : Ctx} {w : World} {enc : TypeId × Value → H}

theorem okWide_wrap (HC : COK C) {S : List Nat} (hS : closedB C S = true) {t : Nat} (ht : t ∈ S) {r : Reach} {base : Nat} {v : Value} (h : Value.okWide C.P w r base t v) : v = wrap (C.kd t) v.cells.toList := by
  have hcl := List.all_eq_true.1 hS t ht
  cases hl : look C.tys t with
  | none =>
    have : C.te t = none := hl
    simp [this] at hcl
  | some te =>
    have hte : C.te t = some te := hl
    have F := HC.fact hl
    obtain ⟨td, sz, by_⟩ := te
    simp only [hte, Bool.and_eq_true, decide_eq_true_eq] at hcl
    obtain ⟨hby, hcl⟩ := hcl
    rw [kdOf_eq hl]
    cases td with
    | int k =>
      have hu := (F.int k rfl).1
      simp only [Value.okWide, Cell.okWide, Cell.ok, hu] at h
      cases v <;> first | rfl | (simp at h)
    | bool =>
      have hu := (F.bool rfl).1
      simp only [Value.okWide, Cell.okWide, Cell.ok, hu] at h
      cases v <;> first | rfl | (simp at h)
    | str =>
      have hu := (F.str rfl).1
      simp only [Value.okWide, Cell.okWide, Cell.ok, hu] at h
      cases v <;> first | rfl | (simp at h)
    | slice e =>
      have hu := (F.slice e rfl).1
      simp only [Value.okWide, Cell.okWide, Cell.ok, hu] at h
      cases v <;> first | rfl | (simp at h)
    | ptr e =>
      have hu := (F.ptr e rfl).1
      simp only [Value.okWide, Cell.okWide, Cell.ok, hu] at h
      cases v <;> first | rfl | (simp at h)
    | struct fs =>
      obtain ⟨gs, hu, _⟩ := F.struct fs rfl
      simp only [Value.okWide, hu] at h
      obtain ⟨cs, rfl, _⟩ := h
      simp [kdOf, wrap, K.isRow, Value.cells]
    | arr n e =>
      have hu := (F.arr n e rfl).1
      simp only [Value.okWide, hu] at h
      obtain ⟨cs, rfl, _⟩ := h
      simp [kdOf, wrap, K.isRow, Value.cells]
    | func ps rs => simp at hcl

theorem args_rep (HC : COK C) {S : List Nat} (hS : closedB C S = true) {base : Nat} : ∀ {ts : List Nat} {vs : List Value} {ds : List (DataW H)} {p : List MemPlace}, (∀ t ∈ ts, t ∈ S) → DataW.TrodAll enc C.P w 0 (fun _ => true) true ts vs ds p →
    (∀ (j : Nat) t v, ts[j]? = some t → vs[j]? = some v → Value.okWide C.P w .any base t v) → (∀ n ∈ DataW.weightsEach C.P ts ds, n ≤ reachBytes) → RepVs C w (okW w) (ts.map C.kd) (ofWf C ts ds) vs
  | [], [], [], _, _, _, _, _ => .nil
  | t :: ts, v :: vs, d :: ds, p, hin, h, hv, hw => by
    obtain ⟨p1, p2, ⟨fuel, h1⟩, h2, _⟩ := h
    have hv0 := okWide_wrap HC hS (hin t (List.mem_cons_self ..)) (hv 0 t v rfl rfl)
    have h3 := trod_rep HC hS fuel t _ _ (hin t (List.mem_cons_self ..)) h1 (fun n hn => hw n (by unfold DataW.weightsEach; exact List.mem_append_left _ hn))
    have hrest := args_rep HC hS (base := base) (fun t' ht' => hin t' (List.mem_cons_of_mem _ ht')) h2 (fun j t' v' a b => hv (j + 1) t' v' (by simpa using a) (by simpa using b)) (fun n hn => hw n (by unfold DataW.weightsEach; exact List.mem_append_right _ hn))
    simp only [List.map_cons, ofWf]
    rw [hv0]
    exact .cons h3 hrest
  | [], _ :: _, _, _, _, h, _, _ => by simp [DataW.TrodAll] at h
  | [], [], _ :: _, _, _, h, _, _ => by simp [DataW.TrodAll] at h
  | _ :: _, [], _, _, _, h, _, _ => by simp [DataW.TrodAll] at h
  | _ :: _, _ :: _, [], _, _, h, _, _ => by simp [DataW.TrodAll] at h

theorem args_again {P : Program} (hl : laidOutB P = true) {W W' : World} (hb : Below W.heap.size W W') : ∀ {ts : List Nat} {vs : List Value} {ds : List (DataW H)} {p : List MemPlace}, (∀ t ∈ ts, P.readableRec t = true ∧ t < P.types.size) →
    DataW.TrodAll enc P W 0 (fun _ => true) true ts vs ds p → (∀ x ∈ p, x.block < W.heap.size) → DataW.TrodAll enc P W' 0 (fun b => decide (b < W.heap.size)) true ts vs ds p
  | [], [], [], _, _, h, _ => h
  | t :: ts, v :: vs, d :: ds, p, hr, h, hlt => by
    obtain ⟨p1, p2, h1, h2, rfl⟩ := h
    have hr0 := hr t (List.mem_cons_self ..)
    exact ⟨p1, p2, Below.trod hl hr0.1 hr0.2 h1 hb (fun x hx => hlt x (List.mem_append_left _ hx)), args_again hl hb (fun t' ht' => hr t' (List.mem_cons_of_mem _ ht')) h2 (fun x hx => hlt x (List.mem_append_right _ hx)), rfl⟩
  | [], _ :: _, _, _, _, h, _ => by simp [DataW.TrodAll] at h
  | [], [], _ :: _, _, _, h, _ => by simp [DataW.TrodAll] at h
  | _ :: _, [], _, _, _, h, _ => by simp [DataW.TrodAll] at h
  | _ :: _, _ :: _, [], _, _, h, _ => by simp [DataW.TrodAll] at h
theorem trodAll_length {P : Program} {base : Nat} {sp : Nat → Bool} {hd : Bool} : ∀ {ts : List Nat} {vs : List Value} {ds : List (DataW H)} {p : List MemPlace}, DataW.TrodAll enc P w base sp hd ts vs ds p → ds.length = ts.length
  | [], [], [], _, _ => rfl
  | t :: ts, v :: vs, d :: ds, p, h => by
    obtain ⟨p1, p2, _, h2, _⟩ := h
    simp [trodAll_length h2]
  | [], _ :: _, _, _, h => by simp [DataW.TrodAll] at h
  | [], [], _ :: _, _, h => by simp [DataW.TrodAll] at h
  | _ :: _, [], _, _, h => by simp [DataW.TrodAll] at h
  | _ :: _, _ :: _, [], _, h => by simp [DataW.TrodAll] at h

/-- A law: what its function answers makes its row. -/
theorem law_calls (HC : COK C) (hlo : laidOutB C.P = true) {f : Nat} {fn : Func} {F : List D → Option (List D)} (HS : Sound C f F) {ts : List Nat} {tb : Nat} (hts : fn.params.toList = ts) (hrt : fn.resultTypes = #[tb]) (hsg : C.sigs f = some ⟨ts.map C.kd, [.bool], [false]⟩)
    (hbool : C.P.underlying tb = some .bool) {S : List Nat} (hS : closedB C S = true) (hin : ts.all (S.contains ·) = true) (hrd : ts.all (fun t => C.P.readableRec t && decide (t < C.P.types.size)) = true)
    {s : ChangeSpec} (hvars : s.vars = []) (hspec : ∀ ds : List (DataW H), ds.length = ts.length → s.fn H ds = { results := [.lit (.bool true)], args := ds })
    {W : World} {base : Nat} {args : Array Value} {ds gs : List (DataW H)} {before : List MemPlace} (hval : ∀ (j : Nat) t v, fn.params[j]? = some t → args[j]? = some v → Value.okWide C.P W .any base t v)
    (hW : DataW.Whole enc C.P fn.params.toList s.vars false W args.toList ds gs before) (hwt : (DataW.weightsEach C.P (fn.params.toList ++ s.plain.varTypes C.P) (ds ++ gs)).all (· ≤ reachBytes) = true)
    (HG : GOK C W (okW W)) (hlaw : ∀ (l : List D) (w : World) (ok : Nat → Prop) (vs : List Value), RepVs C w ok (ts.map C.kd) l vs → F l = some [.bool true]) :
    Calls C.P f args W fun e W' => ∃ v, e = .returned v ∧ s.post enc C.P fn false true false false W args v W' := by
  have hW' := hW
  obtain ⟨p, q, hA, hV, hbef, _, _⟩ := hW
  rw [hvars] at hV
  have hV' : gs = [] ∧ q = [] := by
    cases gs with
    | nil => exact ⟨rfl, hV⟩
    | cons _ _ => exact hV.elim
  obtain ⟨rfl, rfl⟩ := hV'
  rw [hts] at hA
  have hlen := trodAll_length hA
  rw [List.append_nil] at hbef
  subst hbef
  have hinS : ∀ t ∈ ts, t ∈ S := fun t ht => by simpa using List.all_eq_true.1 hin t ht
  have hrep := args_rep HC hS (base := base) hinS hA (fun j t v a b => hval j t v (by rw [← hts] at a; simpa using a) (by simpa using b)) (by
    intro n hn
    have := List.all_eq_true.1 hwt n (by
      rw [List.append_nil, hts]
      have hvt : s.plain.varTypes C.P = [] ∨ True := .inr trivial
      have : ∀ (a b : List Nat) (l : List (DataW H)), l.length = a.length → DataW.weightsEach C.P (a ++ b) l = DataW.weightsEach C.P a l := by
        intro a
        induction a with
        | nil =>
          intro b l hl
          have : l = [] := List.eq_nil_of_length_eq_zero (by simpa using hl)
          subst this
          cases b <;> simp [DataW.weightsEach]
        | cons x a ih =>
          intro b l hl
          cases l with
          | nil => simp at hl
          | cons d l =>
            simp only [List.cons_append, DataW.weightsEach]
            rw [ih b l (by simpa using hl)]
      rw [this _ _ _ hlen]
      exact hn)
    simpa using this)
  have hans := hlaw _ _ _ _ hrep
  have hc := HS _ hsg _ _ hans W (okW W) _ HG (fun b hb => hb) hrep
  refine (by simpa using hc : Calls C.P f args W _).mono ?_
  rintro e W' ⟨okr, vs, rfl, hbel, _, hrs⟩
  cases hrs with
  | dat h1 hv hl =>
    cases hl
    obtain ⟨b, hb, rfl⟩ := RepV.bool hv
    simp only [D.bool.injEq] at hb
    subst hb
    refine ⟨.bool true, rfl, ds, [], before, [], before, [], hW', ?_, ?_, ?_, hbel.frame _, fun h => by cases h⟩
    · rw [List.append_nil, hspec ds hlen, hrt]
      exact trodAll_mk1 (shut_bool hbool _)
    · rw [List.append_nil, hspec ds hlen, hts]
      exact args_again hlo hbel (fun t ht => by
        have := List.all_eq_true.1 hrd t ht
        simpa using this) hA (fun x hx => by
        have := hW'.lt x hx
        simpa using this)
    · rw [List.append_nil, hspec ds hlen, hvars]
      rfl

/-! ### Shapes -/
theorem slice_shape {ok : Nat → Prop} {e : Nat} {d : D} {cs : List Value} (h : RepC C w ok (.slice e) d cs) : ∃ l : List D, d = .list l ∧ l.length ≤ 140737488355328 ∧ ∀ x ∈ l, ∃ c, RepC C w ok (C.kd e) x c := by
  have mem : ∀ {k : K} {l : List D} {cs : List Value}, RepL C w ok k l cs → ∀ x ∈ l, ∃ c, RepC C w ok k x c := by
    intro k l
    induction l with
    | nil => intro cs _ x hx; simp at hx
    | cons y l ih =>
      intro cs h x hx
      cases h with
      | cons h1 hl =>
        rcases List.mem_cons.1 hx with rfl | hx
        · exact ⟨_, h1⟩
        · exact ih hl x hx
  cases h with
  | nils => exact ⟨[], rfl, by simp, by simp⟩
  | slice h0 hb hm hcap hc hl hr => exact ⟨_, rfl, hm, mem hl⟩
theorem list_shape {α : Type} {f : α → D} {P : α → Prop} : ∀ {l : List D}, (∀ x ∈ l, ∃ y : α, x = f y ∧ P y) → ∃ m : List α, l = m.map f ∧ ∀ y ∈ m, P y
  | [], _ => ⟨[], rfl, by simp⟩
  | x :: l, h => by
    obtain ⟨y, rfl, hy⟩ := h x (List.mem_cons_self ..)
    obtain ⟨m, rfl, hm⟩ := list_shape fun z hz => h z (List.mem_cons_of_mem _ hz)
    exact ⟨y :: m, rfl, fun z hz => by
      rcases List.mem_cons.1 hz with rfl | hz
      · exact hy
      · exact hm z hz⟩
theorem int_shape {ok : Nat → Prop} {k : IntKind} {d : D} {cs : List Value} (h : RepC C w ok (.int k) d cs) : ∃ n : Int, d = .int n ∧ k.min ≤ n ∧ n ≤ k.max := by
  cases h with | int h => exact ⟨_, rfl, h⟩
theorem str_shape {ok : Nat → Prop} {d : D} {cs : List Value} (h : RepC C w ok .str d cs) : ∃ s : List UInt8, d = .str s ∧ s.length ≤ 140737488355328 := by
  cases h with | str h => exact ⟨_, rfl, h⟩
theorem bool_shape {ok : Nat → Prop} {d : D} {cs : List Value} (h : RepC C w ok .bool d cs) : ∃ b : Bool, d = .bool b := by
  cases h with | bool => exact ⟨_, rfl⟩
theorem struct_shape {ok : Nat → Prop} {t : Nat} {fs : List Nat} {d : D} {cs : List Value} (h : RepC C w ok (.struct t) d cs) (hf : C.fields t = some fs) : ∃ l : List D, d = .agg l ∧ ∃ cs, RepF C w ok fs l cs := by
  cases h with
  | struct h1 h2 =>
    rw [hf] at h1
    simp only [Option.some.injEq] at h1
    subst h1
    exact ⟨_, rfl, _, h2⟩
theorem RepF.step {ok : Nat → Prop} {t : Nat} {ts : List Nat} {l : List D} {cs : List Value} (h : RepF C w ok (t :: ts) l cs) : ∃ d l' c cs', l = d :: l' ∧ RepC C w ok (C.kd t) d c ∧ RepF C w ok ts l' cs' := by
  cases h with | cons h1 h2 => exact ⟨_, _, _, _, rfl, h1, h2⟩
theorem RepF.done {ok : Nat → Prop} {l : List D} {cs : List Value} (h : RepF C w ok [] l cs) : l = [] := by
  cases h; rfl
theorem RepVs.step {ok : Nat → Prop} {k : K} {ks : List K} {l : List D} {vs : List Value} (h : RepVs C w ok (k :: ks) l vs) : ∃ d l' c vs', l = d :: l' ∧ RepC C w ok k d c ∧ RepVs C w ok ks l' vs' := by
  cases h with | cons h1 h2 => exact ⟨_, _, _, _, rfl, h1, h2⟩
theorem RepVs.done {ok : Nat → Prop} {l : List D} {vs : List Value} (h : RepVs C w ok [] l vs) : l = [] := by
  cases h; rfl
end
end Sy

/- Words for the plain laws: how data is taken apart, how loops go. -/
namespace Sy
open Go

@[simp] theorem at_zero (x : D) (l : List D) : at_ (x :: l) 0 = x := by rfl
@[simp] theorem at_one (x y : D) (l : List D) : at_ (x :: y :: l) 1 = y := by rfl
@[simp] theorem at_two (x y z : D) (l : List D) : at_ (x :: y :: z :: l) 2 = z := by rfl
@[simp] theorem at_three (x y z u : D) (l : List D) : at_ (x :: y :: z :: u :: l) 3 = u := by rfl
@[simp] theorem at_four (x y z u v : D) (l : List D) : at_ (x :: y :: z :: u :: v :: l) 4 = v := by rfl
@[simp] theorem at_five (x y z u v q : D) (l : List D) : at_ (x :: y :: z :: u :: v :: q :: l) 5 = q := by rfl
@[simp] theorem at_six (x y z u v q r : D) (l : List D) : at_ (x :: y :: z :: u :: v :: q :: r :: l) 6 = r := by rfl
@[simp] theorem at_seven (x y z u v q r s : D) (l : List D) : at_ (x :: y :: z :: u :: v :: q :: r :: s :: l) 7 = s := by rfl
@[simp] theorem asI_int' (n : Int) : (D.int n).asI = n := by rfl
@[simp] theorem asB_bool' (b : Bool) : (D.bool b).asB = b := by rfl
@[simp] theorem asS_str' (s : List UInt8) : (D.str s).asS = s := by rfl
@[simp] theorem asL_list' (l : List D) : (D.list l).asL = l := by rfl
@[simp] theorem asA_agg' (l : List D) : (D.agg l).asA = l := by rfl
@[simp] theorem asP_ptr' (d : D) : (D.ptr d).asP = d := by rfl
@[simp] theorem isP_ptr' (d : D) : (D.ptr d).isP = true := by rfl
@[simp] theorem isP_nil' : D.nil.isP = false := by rfl
@[simp] theorem asB_fits (n : Nat) (a b : Int) : (U2.ev (.fits n) (.int a) (.int b)).asB = decide (a + b ≤ (n : Int)) := by rfl
@[simp] theorem asB_ble (n : Nat) (a b : Int) : (U2.ev (.ble n) (.int a) (.int b)).asB = decide (0 ≤ a ∧ a ≤ b ∧ b ≤ (n : Int)) := by rfl
@[simp] theorem ev_shr (k : IntKind) (a b : Int) : U2.ev (.shr k) (.int a) (.int b) = .int (a.fdiv (2 ^ (Nat.min b.toNat k.bits))) := by rfl
@[simp] theorem callIf_t (x : Option (List D)) (k : List D → Option Out) : callIf true x k = x.bind k := by rfl
@[simp] theorem callIf_f (x : Option (List D)) (k : List D → Option Out) : callIf false x k = k [] := by rfl
@[simp] theorem bothO_same (x : Option Out) : bothO x x = x := bothO_self x
@[simp] theorem callD_fn (Γ : Fns) (f : Nat) (a b l : List D) : callD Γ (.fn f a b) l = Γ f (a ++ l ++ b) := by rfl
@[simp] theorem outs_two (l : List D) : outs (2, l) = some l := by rfl

theorem at_map {α : Type} (f : α → D) (l : List α) (i : Nat) (h : i < l.length) : at_ (l.map f) i = f l[i] := by
  unfold at_
  rw [List.getD_eq_getElem?_getD, List.getElem?_map, List.getElem?_eq_getElem h]
  rfl
theorem at_eq {l : List D} {i : Nat} (h : i < l.length) : at_ l i = l[i] := by
  unfold at_
  rw [List.getD_eq_getElem?_getD, List.getElem?_eq_getElem h]
  rfl
theorem at_out {l : List D} {i : Nat} (h : l.length ≤ i) : at_ l i = .nil := by
  unfold at_
  rw [List.getD_eq_getElem?_getD, List.getElem?_eq_none h]
  rfl

theorem wrap64 {n : Int} (h : -9223372036854775808 ≤ n ∧ n ≤ 9223372036854775807) : IntKind.wrap .i64 n = n := IntWalk.i64_in n h
theorem wrap_nat {n : Nat} (h : n ≤ 4611686018427387904) : IntKind.wrap .i64 ((n : Int) + 1) = ((n + 1 : Nat) : Int) := by
  rw [wrap64 (by omega)]
  omega

/-- A loop that goes n rounds and then ends. -/
theorem loop_n {f : List D → Option Out} {vs : List D} {o : Out} (inv : Nat → List D) (n : Nat) (h0 : vs = inv 0) (hs : ∀ i, i < n → f (inv i) = some (0, inv (i + 1))) (he : f (inv n) = some o) (ho : o.1 ≠ 0) : loopL f vs = some o := by
  have key : ∀ k, k ≤ n → loopL f (inv (n - k)) = some o := by
    intro k
    induction k with
    | zero =>
      intro _
      rw [loopL_eq, Nat.sub_zero, he]
      simp [ho]
    | succ k ih =>
      intro hk
      rw [loopL_eq, hs (n - (k + 1)) (by omega)]
      have : n - (k + 1) + 1 = n - k := by omega
      simp only [Option.bind_some, if_true, this]
      exact ih (by omega)
  rw [h0]
  have := key n (Nat.le_refl n)
  simpa using this
theorem take_map_snoc {α β : Type} (f : α → β) (l : List α) (i : Nat) (hi : i < l.length) : (l.map f).take i ++ [f l[i]] = (l.map f).take (i + 1) := by
  rw [List.take_succ_eq_append_getElem (by simpa using hi), List.getElem_map]
theorem any_take_succ {α : Type} {l : List α} {p : α → Bool} {i : Nat} (hi : i < l.length) (hv : (l.take i).any p = false) : (l.take (i + 1)).any p = p l[i] := by
  rw [List.take_succ_eq_append_getElem hi, List.any_append, hv]
  simp
/-- A loop over the places of a row; its rounds keep what 'inv' says, or end. -/
theorem loop_list {f : List D → Option Out} {vs : List D} {L : Option Out} (hL : loopL f vs = L) (n : Nat) (inv : Nat → List D → Prop) (P : Out → Prop) (h0 : inv 0 vs)
    (hs : ∀ i v, i < n → inv i v → (∃ v', f v = some (0, v') ∧ inv (i + 1) v') ∨ ∃ o, f v = some o ∧ o.1 ≠ 0 ∧ P o)
    (he : ∀ v, inv n v → ∃ o, f v = some o ∧ o.1 ≠ 0 ∧ P o) : ∃ o, L = some o ∧ P o := by
  have key : ∀ k, k ≤ n → ∀ v, inv (n - k) v → ∃ o, loopL f v = some o ∧ P o := by
    intro k
    induction k with
    | zero =>
      intro _ v hv
      obtain ⟨o, h1, h2, h3⟩ := he v (by simpa using hv)
      exact ⟨o, by rw [loopL_eq, h1]; simp [h2], h3⟩
    | succ k ih =>
      intro hk v hv
      rcases hs (n - (k + 1)) v (by omega) hv with ⟨v', h1, h2⟩ | ⟨o, h1, h2, h3⟩
      · have e : n - (k + 1) + 1 = n - k := by omega
        rw [e] at h2
        obtain ⟨o, g1, g2⟩ := ih (by omega) v' h2
        exact ⟨o, by rw [loopL_eq, h1]; simpa using g1, g2⟩
      · exact ⟨o, by rw [loopL_eq, h1]; simp [h2], h3⟩
  rw [← hL]
  exact key n (Nat.le_refl n) vs (by simpa using h0)
/-- A loop that goes n rounds and then ends. -/
theorem loop_to {f : List D → Option Out} {vs : List D} {L : Option Out} (hL : loopL f vs = L) (n : Nat) (inv : Nat → List D) (o : Out) (h0 : vs = inv 0) (hs : ∀ i, i < n → f (inv i) = some (0, inv (i + 1))) (he : f (inv n) = some o) (ho : o.1 ≠ 0) : L = some o := by
  rw [← hL]
  exact loop_n inv n h0 hs he ho
/-- A loop that looks for the first of some things for which something holds. -/
theorem loop_any {α : Type} {f : List D → Option Out} {vs : List D} {L : Option Out} (hL : loopL f vs = L) (xs : List α) (bad : α → Bool) (X E : Out) (h0 : vs = [.int 0]) (hX : X.1 ≠ 0) (hE : E.1 ≠ 0)
    (hs : ∀ i (hi : i < xs.length), f [.int i] = if bad xs[i] then some X else some (0, [.int (i + 1 : Nat)])) (he : f [.int xs.length] = some E) : L = some (if xs.any bad then X else E) := by
  obtain ⟨o, h1, h2⟩ := loop_list hL xs.length (fun i v => v = [.int i] ∧ (xs.take i).any bad = false) (fun o => o = if xs.any bad then X else E) ⟨h0, rfl⟩ (by
    rintro i v hi ⟨rfl, hv⟩
    have ht := any_take_succ hi hv
    cases hb : bad xs[i]
    · left
      exact ⟨_, by rw [hs i hi, hb]; rfl, rfl, by rw [ht, hb]⟩
    · right
      refine ⟨X, by rw [hs i hi, hb]; rfl, hX, ?_⟩
      rw [if_pos]
      rw [List.any_eq_true]
      exact ⟨_, List.getElem_mem hi, hb⟩) (by
    rintro v ⟨rfl, hv⟩
    rw [List.take_length] at hv
    exact ⟨E, he, hE, by rw [hv]; rfl⟩)
  rw [h1, h2]
end Sy

/- Values, deltas, instructions, programs, as plain data. -/
namespace Sy
open Go

abbrev Bs := List UInt8
structure Val where
  kind : Int
  n : Int
  s : Bs
  deriving DecidableEq, Inhabited
structure Delta where
  time : Int
  row : List Val
  n : Int
  deriving DecidableEq, Inhabited
structure Ins where
  op : Int
  to : Int
  a : Int
  b : Int
  c : Int
  n : Int
  s : Bs
  deriving DecidableEq, Inhabited
structure Prg where
  ins : List Ins
  types : List Int
  out : Int
  deriving DecidableEq, Inhabited

def Val.d (v : Val) : D := .agg [.int v.kind, .int v.n, .str v.s]
def rowD (l : List Val) : D := .list (l.map Val.d)
def Delta.d (x : Delta) : D := .agg [.int x.time, rowD x.row, .int x.n]
def deltasD (l : List Delta) : D := .list (l.map Delta.d)
def Ins.d (x : Ins) : D := .agg [.int x.op, .int x.to, .int x.a, .int x.b, .int x.c, .int x.n, .str x.s]
def intsD (l : List Int) : D := .list (l.map D.int)
def boolsD (l : List Bool) : D := .list (l.map D.bool)
def Prg.d (c : Prg) : D := .agg [.list (c.ins.map Ins.d), intsD c.types, .int c.out]

def vInt (n : Int) : Val := ⟨0, n, []⟩
def vBool (b : Bool) : Val := ⟨2, if b then 1 else 0, []⟩
def vText (s : Bs) : Val := ⟨1, 0, s⟩

@[simp] theorem beq_int (a b : Int) : D.beq (.int a) (.int b) = (a == b) := by simp [D.beq]
@[simp] theorem beq_str (a b : Bs) : D.beq (.str a) (.str b) = (a == b) := by simp [D.beq]
@[simp] theorem beq_val (a b : Val) : D.beq a.d b.d = (a == b) := by
  obtain ⟨k, n, s⟩ := a
  obtain ⟨k', n', s'⟩ := b
  simp [Val.d, D.beq, D.beqs]
  rw [Bool.eq_iff_iff]
  simp
@[simp] theorem beq_ins (a b : Ins) : D.beq a.d b.d = (a == b) := by
  obtain ⟨⟩ := a
  obtain ⟨⟩ := b
  simp [Ins.d, D.beq, D.beqs]
  rw [Bool.eq_iff_iff]
  simp

/-- The i-th of some numbers; 0, where there is none. -/
def gi (l : List Int) (i : Nat) : Int := l.getD i 0
def gb (l : List Bool) (i : Nat) : Bool := l.getD i false
@[simp] theorem asI_at_ints (l : List Int) (i : Nat) : (at_ (l.map D.int) i).asI = gi l i := by
  unfold at_ gi
  rw [List.getD_eq_getElem?_getD, List.getD_eq_getElem?_getD, List.getElem?_map]
  cases l[i]? <;> rfl
@[simp] theorem asB_at_bools (l : List Bool) (i : Nat) : (at_ (l.map D.bool) i).asB = gb l i := by
  unfold at_ gb
  rw [List.getD_eq_getElem?_getD, List.getD_eq_getElem?_getD, List.getElem?_map]
  cases l[i]? <;> rfl
theorem at_ints {l : List Int} {i : Nat} (h : i < l.length) : at_ (l.map D.int) i = .int (gi l i) := by
  unfold gi
  rw [at_map _ _ _ h, List.getD_eq_getElem?_getD, List.getElem?_eq_getElem h]
  rfl
theorem any_ne_all (t : Int) : ∀ l : List Int, (l.map D.int).any (fun d => !(d.asI == t)) = !(l.all (· == t))
  | [] => rfl
  | x :: l => by
    rw [List.map_cons, List.any_cons, any_ne_all t l, List.all_cons, Bool.not_and]
    rfl
@[simp] theorem intsD_asL (l : List Int) : (intsD l).asL = l.map D.int := by rfl
@[simp] theorem boolsD_asL (l : List Bool) : (boolsD l).asL = l.map D.bool := by rfl
@[simp] theorem rowD_asL (l : List Val) : (rowD l).asL = l.map Val.d := by rfl
@[simp] theorem deltasD_asL (l : List Delta) : (deltasD l).asL = l.map Delta.d := by rfl
end Sy
