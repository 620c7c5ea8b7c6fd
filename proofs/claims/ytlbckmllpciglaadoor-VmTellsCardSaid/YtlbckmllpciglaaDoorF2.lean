/- The framework, part 2: SyOps1, SyOps2, SyOps3, SyOps4 -/
import Derived.Test.YtlbckmllpciglaaDoorF1
import Derived.Laws.StructEq
set_option linter.unusedVariables false
set_option linter.unusedSimpArgs false
set_option linter.all false

/- Small laws on the machine's operations: cells and values, zeros, what fills a struct or a row. -/
namespace Sy
open Go Go.RowKit

section
variable {C : Ctx} {ρ : List D} {β : Be} {w : World} {ok : Nat → Prop}

mutual
theorem RepSc.one : ∀ {v : SV} {k : K} {cs : List Value}, RepSc C ρ β w ok v k cs → ∀ u ∈ cs, u.oneCell' = true
  | .dat _ _, _, _, h => h.2.one
  | .nils _, _, _, h => by rw [h.2]; intro u hu; simp only [List.mem_singleton] at hu; subst hu; rfl
  | .sli _ _ _, _, _, h => by
    obtain ⟨a, l, c, hv⟩ := h.2.2
    rw [h.2.1, hv]; intro u hu; simp only [List.mem_singleton] at hu; subst hu; rfl
  | .bptr _ _ _, _, _, h => by
    obtain ⟨_, off, _, hv⟩ := h
    rw [hv]; intro u hu; simp only [List.mem_singleton] at hu; subst hu; rfl
  | .agg _ _, _, _, h => by
    obtain ⟨_, fs, _, hl⟩ := h
    exact RepScs.one hl
  | .nil0, _, _, h | .nilp, _, _, h | .eptr .., _, _, h | .tup _, _, _, h | .fnc .., _, _, h | .tab .., _, _, h | .tptr .., _, _, h | .alt .., _, _, h | .nilq _, _, _, h | .gd .., _, _, h | .junk, _, _, h => h.elim
theorem RepScs.one : ∀ {l : List SV} {fs : List Nat} {cs : List Value}, RepScs C ρ β w ok l fs cs → ∀ u ∈ cs, u.oneCell' = true
  | [], _, _, h => by rw [h.2]; simp
  | _ :: _, _, _, h => by
    obtain ⟨t, ts, c1, c2, _, h2, h3, h4⟩ := h
    have g1 := RepSc.one h3
    have g2 := RepScs.one h4
    rw [h2]
    intro u hu
    rcases List.mem_append.1 hu with hu | hu
    · exact g1 u hu
    · exact g2 u hu
end

theorem one_cells {v : Value} (h : v.oneCell' = true) : v.cells = #[v] := by cases v <;> first | rfl | simp [Value.oneCell'] at h
/-- The cells of a value. -/
theorem wrap_cells {k : K} {cs : List Value} (hl : k.isRow = false → cs.length = 1) (h1 : ∀ u ∈ cs, u.oneCell' = true) : (wrap k cs).cells = cs.toArray := by
  unfold wrap
  split
  · rfl
  · rename_i hk
    have := hl (by simpa using hk)
    match cs, this, h1 with
    | [u], _, h1 => simp only [List.headD_cons]; rw [one_cells (h1 u (by simp))]
theorem ksz_one {k : K} (h : k.isRow = false) : C.ksz k = 1 := by cases k <;> first | rfl | simp [K.isRow] at h
theorem RepC.cells (H : COK C) {k : K} {d : D} {cs : List Value} (h : RepC C w ok k d cs) : (wrap k cs).cells = cs.toArray :=
  wrap_cells (fun hk => by rw [RepC.len H h, ksz_one hk]) h.one
theorem RepSc.cells (H : COK C) {v : SV} {t : Nat} {cs : List Value} (ht : inTab C t = true) (h : RepSc C ρ β w ok v (C.kd t) cs) : (wrap (C.kd t) cs).cells = cs.toArray :=
  wrap_cells (fun hk => by rw [RepSc.repC_len H ht h, ← kd_size H ht, ksz_one hk]) h.one

theorem typ_ok {k : K} {v : SV} {x : Value} (h : RepSV C ρ β w ok v x) : RepSV C ρ β w ok (typ C k v) x := by
  cases v <;> try exact h
  · simp only [typ]
    split
    · exact h
    · exact h
  · simp only [typ]
    split
    · simp only [RepSV] at h ⊢
      subst h
      exact ⟨_, .nilp, rfl⟩
    · exact h

/-! ### Zeros -/
theorem optAll_get {α β : Type} (f : α → Option β) : ∀ {l : List α} {r : List β}, optAll (l.map f) = some r → ∀ {P : List α → List β → Prop}, P [] [] → (∀ a b l r, f a = some b → P l r → P (a :: l) (b :: r)) → P l r
  | [], r, h, P, h0, _ => by simp only [List.map_nil, optAll, Option.some.injEq] at h; subst h; exact h0
  | a :: l, r, h, P, h0, hs => by
    simp only [List.map_cons] at h
    cases ha : f a with
    | none => simp [ha, optAll] at h
    | some b =>
      simp only [ha, optAll] at h
      cases hl : optAll (l.map f) with
      | none => simp [hl] at h
      | some r' =>
        simp only [hl, Option.map_some, Option.some.injEq] at h
        subst h
        exact hs a b l r' ha (optAll_get f hl h0 hs)

theorem te_look {t : Nat} {e : TE} (h : C.te t = some e) : look C.tys t = some e := h
theorem kd_of_te {t : Nat} {e : TE} (h : C.te t = some e) : C.kd t = match e.td with
    | .int k => .int k | .bool => .bool | .str => .str | .slice e => .slice e | .struct _ => .struct t | .arr _ _ => .arr t | .ptr e => .ptr e | .func _ _ => .func t := by
  unfold Ctx.kd; rw [te_look h]; rfl

def zval : TD → Value → Prop
  | .int k, v => v = .int k 0
  | .bool, v => v = .bool false
  | .str, v => v = .string ⟨([] : List UInt8).toArray⟩
  | .slice _, v => v = .slice none 0 0
  | .ptr _, v => v = .pointer none
  | _, _ => False
theorem zleaf_val {td : TD} {v : Value} (h : zleaf td v = true) : zval td v := by
  cases td <;> cases v <;> simp only [zleaf, Bool.false_eq_true] at h
  · simp only [Bool.and_eq_true, decide_eq_true_eq] at h; obtain ⟨rfl, rfl⟩ := h; rfl
  · simp only [Bool.not_eq_true'] at h; subst h; rfl
  · rename_i s
    obtain ⟨d⟩ := s
    have : d = #[] := by
      apply Array.toList_inj.1
      simpa using h
    subst this; rfl
  · rename_i a l c
    cases a with
    | none => cases l <;> cases c <;> first | rfl | simp at h
    | some _ => simp at h
  · rename_i a
    cases a with
    | none => rfl
    | some _ => simp at h
theorem zero_has (k : IntKind) : k.min ≤ 0 ∧ 0 ≤ k.max := by cases k <;> decide

theorem zx_ok : ∀ (n : Nat) (t : Nat) (e : Ex) (cs r : List Value), zx C n t = some e → zrep C n t cs = some r → ∃ c1, cs = c1 ++ r ∧ RepC C w ok (C.kd t) (e.ev C.G ρ) c1
  | 0, t, e, cs, r, h, _ => by simp [zx] at h
  | n + 1, t, e, cs, r, h, hz => by
    simp only [zx] at h
    simp only [zrep] at hz
    cases ht : C.te t with
    | none => simp [ht] at h
    | some te =>
      obtain ⟨td, sz, by_⟩ := te
      simp only [ht] at h hz
      have hk := kd_of_te ht
      have leaf : ∀ (td : TD) (k : K) (z : Ex), C.kd t = k → zhead td cs = some r → (∀ v, zleaf td v = true → RepC C w ok k (z.ev C.G ρ) [v]) → ∃ c1, cs = c1 ++ r ∧ RepC C w ok (C.kd t) (z.ev C.G ρ) c1 := by
        intro td k z hk hz hv
        cases cs with
        | nil => simp [zhead] at hz
        | cons v r' =>
          simp only [zhead] at hz
          split at hz
          · rename_i hl
            simp only [Option.some.injEq] at hz
            subst hz
            exact ⟨[v], rfl, by rw [hk]; exact hv v hl⟩
          · simp at hz
      cases td with
      | int k =>
        simp only [Option.some.injEq] at h
        subst h
        exact leaf (.int k) (.int k) _ hk hz fun v hv => by have : v = .int k 0 := zleaf_val hv; rw [this]; exact .int (zero_has k)
      | bool =>
        simp only [Option.some.injEq] at h
        subst h
        exact leaf .bool .bool _ hk hz fun v hv => by have : v = .bool false := zleaf_val hv; rw [this]; exact .bool
      | str =>
        simp only [Option.some.injEq] at h
        subst h
        exact leaf .str .str _ hk hz fun v hv => by have : v = .string ⟨([] : List UInt8).toArray⟩ := zleaf_val hv; rw [this]; exact .str (by simp)
      | slice x =>
        simp only [Option.some.injEq] at h
        subst h
        exact leaf (.slice x) (.slice x) _ hk hz fun v hv => by have : v = .slice none 0 0 := zleaf_val hv; rw [this]; exact .nils
      | ptr x =>
        simp only [Option.some.injEq] at h
        subst h
        exact leaf (.ptr x) (.ptr x) _ hk hz fun v hv => by have : v = .pointer none := zleaf_val hv; rw [this]; exact .nilp
      | struct fs =>
        simp only at h hk hz
        cases ho : optAll (fs.map (zx C n)) with
        | none => simp [ho] at h
        | some es =>
          simp only [ho, Option.map_some, Option.some.injEq] at h
          subst h
          have hf : C.fields t = some fs := by unfold Ctx.fields; rw [te_look ht]
          have key : ∀ cs r, zrepL (zrep C n) fs cs = some r → ∃ c1, cs = c1 ++ r ∧ RepF C w ok fs (evs C.G ρ es) c1 :=
            optAll_get (zx C n) ho (P := fun fs es => ∀ cs r, zrepL (zrep C n) fs cs = some r → ∃ c1, cs = c1 ++ r ∧ RepF C w ok fs (evs C.G ρ es) c1)
              (fun cs r h => by simp only [zrepL, Option.some.injEq] at h; subst h; exact ⟨[], rfl, .nil⟩)
              (fun a b l r' hab ih cs r h => by
                simp only [zrepL] at h
                cases h1 : zrep C n a cs with
                | none => simp [h1] at h
                | some r1 =>
                  simp only [h1] at h
                  obtain ⟨c1, rfl, hc⟩ := zx_ok n a b cs r1 hab h1
                  obtain ⟨c2, rfl, hF⟩ := ih r1 r h
                  exact ⟨c1 ++ c2, by simp [List.append_assoc], .cons hc hF⟩)
          obtain ⟨c1, rfl, hF⟩ := key cs r hz
          refine ⟨c1, rfl, ?_⟩
          rw [hk]
          simp only [Ex.ev, U1.ev, exList_ev, D.asL]
          exact .struct hf hF
      | arr m x =>
        simp only at h hk hz
        cases ho : zx C n x with
        | none => simp [ho] at h
        | some ex =>
          simp only [ho, Option.map_some, Option.some.injEq] at h
          subst h
          have hf : C.arrOf t = some (m, x) := by unfold Ctx.arrOf; rw [te_look ht]
          have key : ∀ m cs r, zrepN (zrep C n x) m cs = some r → ∃ c1, cs = c1 ++ r ∧ RepL C w ok (C.kd x) (List.replicate m (ex.ev C.G ρ)) c1 := by
            intro m
            induction m with
            | zero => intro cs r h; simp only [zrepN, Option.some.injEq] at h; subst h; exact ⟨[], rfl, .nil⟩
            | succ m ih =>
              intro cs r h
              simp only [zrepN] at h
              cases h1 : zrep C n x cs with
              | none => simp [h1] at h
              | some r1 =>
                simp only [h1] at h
                obtain ⟨c1, rfl, hc⟩ := zx_ok n x ex cs r1 ho h1
                obtain ⟨c2, rfl, hF⟩ := ih r1 r h
                exact ⟨c1 ++ c2, by simp [List.append_assoc], .cons hc hF⟩
          obtain ⟨c1, rfl, hL⟩ := key m cs r hz
          refine ⟨c1, rfl, ?_⟩
          rw [hk]
          simp only [Ex.ev, U1.ev, U2.ev, D.asL, D.asI, Int.toNat_natCast]
          exact .arr hf (by simp) hL
      | func _ _ => simp at h

theorem zsv_ok : ∀ (n : Nat) (t : Nat) (v : SV) (cs r : List Value), zsv C n t = some v → zrep C n t cs = some r → ∃ c1, cs = c1 ++ r ∧ RepSc C ρ β w ok v (C.kd t) c1
  | 0, t, e, cs, r, h, _ => by simp [zsv] at h
  | n + 1, t, v, cs, r, h, hz => by
    simp only [zsv] at h
    cases ht : C.te t with
    | none => simp [ht] at h
    | some te =>
      obtain ⟨td, sz, by_⟩ := te
      simp only [ht] at h
      have hk := kd_of_te ht
      have dat : ∀ v, (zx C (n + 1) t).map (SV.dat (C.kd t)) = some v → ∃ c1, cs = c1 ++ r ∧ RepSc C ρ β w ok v (C.kd t) c1 := by
        intro v h
        cases hx : zx C (n + 1) t with
        | none => simp [hx] at h
        | some e =>
          simp only [hx, Option.map_some, Option.some.injEq] at h
          subst h
          obtain ⟨c1, h1, h2⟩ := zx_ok (ρ := ρ) (w := w) (ok := ok) (n + 1) t e cs r hx hz
          exact ⟨c1, h1, rfl, h2⟩
      cases td with
      | int k => exact dat v h
      | bool => exact dat v h
      | str => exact dat v h
      | ptr x => exact dat v h
      | arr m x => exact dat v h
      | func _ _ => exact dat v h
      | slice x =>
        simp only [Option.some.injEq] at h
        subst h
        simp only [zrep, ht] at hz
        cases cs with
        | nil => simp [zhead] at hz
        | cons u r' =>
          simp only [zhead] at hz
          split at hz
          · rename_i hl
            simp only [Option.some.injEq] at hz
            subst hz
            exact ⟨[u], rfl, hk, by have : u = .slice none 0 0 := zleaf_val hl; rw [this]⟩
          · simp at hz
      | struct fs =>
        simp only at h hk
        simp only [zrep, ht] at hz
        cases ho : optAll (fs.map (zsv C n)) with
        | none => simp [ho] at h
        | some l =>
          simp only [ho, Option.map_some, Option.some.injEq] at h
          subst h
          have hf : C.fields t = some fs := by unfold Ctx.fields; rw [te_look ht]
          have key : ∀ cs r, zrepL (zrep C n) fs cs = some r → ∃ c1, cs = c1 ++ r ∧ RepScs C ρ β w ok l fs c1 :=
            optAll_get (zsv C n) ho (P := fun fs l => ∀ cs r, zrepL (zrep C n) fs cs = some r → ∃ c1, cs = c1 ++ r ∧ RepScs C ρ β w ok l fs c1)
              (fun cs r h => by simp only [zrepL, Option.some.injEq] at h; subst h; exact ⟨[], rfl, rfl, rfl⟩)
              (fun a b l r' hab ih cs r h => by
                simp only [zrepL] at h
                cases h1 : zrep C n a cs with
                | none => simp [h1] at h
                | some r1 =>
                  simp only [h1] at h
                  obtain ⟨c1, rfl, hc⟩ := zsv_ok n a b cs r1 hab h1
                  obtain ⟨c2, rfl, hF⟩ := ih r1 r h
                  exact ⟨c1 ++ c2, by simp [List.append_assoc], a, l, c1, c2, rfl, rfl, hc, hF⟩)
          obtain ⟨c1, rfl, hF⟩ := key cs r hz
          exact ⟨c1, rfl, hk, fs, hf, hF⟩

/-- The machine's zero of a type is what the tables say. -/
theorem zero_fact {t : Nat} (h : zOK C t = true) : ∃ i z, C.P.info? t = some i ∧ i.zero = some z ∧ zrep C 12 t z.cells.toList = some [] := by
  unfold zOK at h
  cases hi : C.P.info? t with
  | none => simp [hi] at h
  | some i =>
    simp only [hi] at h
    cases hz : i.zero with
    | none => simp [hz] at h
    | some z =>
      simp only [hz] at h
      split at h
      · rename_i h1; exact ⟨i, z, rfl, hz, h1⟩
      · simp at h
theorem zeroV_ok (H : COK C) {t : Nat} {v : SV} (h : C.zeroV t = some v) : ∃ i z, C.P.info? t = some i ∧ i.zero = some z ∧ RepSc C ρ β w ok v (C.kd t) z.cells.toList := by
  obtain ⟨i, z, h1, h2, h3⟩ := zero_fact (H.zero t (.inl (by rw [h]; rfl)))
  obtain ⟨c1, h4, h5⟩ := zsv_ok (ρ := ρ) (β := β) (w := w) (ok := ok) 12 t v _ _ h h3
  rw [List.append_nil] at h4
  exact ⟨i, z, h1, h2, by rw [h4]; exact h5⟩
end
end Sy

/- The operations that only compute: the machine's answer is what the expression says. -/
namespace Sy
open Go Go.RowKit

theorem wrap_has (k : IntKind) (n : Int) : k.min ≤ k.wrap n ∧ k.wrap n ≤ k.max := by
  cases k <;> simp [IntKind.wrap, IntKind.min, IntKind.max, IntKind.signed, IntKind.bits] <;>
    (try split) <;> omega
theorem tmod_has {k : IntKind} {a : Int} (h : k.min ≤ a ∧ a ≤ k.max) (b : Int) : k.min ≤ a.tmod b ∧ a.tmod b ≤ k.max := by
  have hz := zero_has k
  rcases Int.le_total 0 a with h0 | h0
  · have h1 : 0 ≤ a.tmod b := Int.tmod_nonneg b h0
    have h2 : (a.tmod b).natAbs ≤ a.natAbs := by rw [Int.natAbs_tmod]; exact Nat.mod_le _ _
    omega
  · have h1 : 0 ≤ (-a).tmod b := Int.tmod_nonneg b (by omega)
    have h2 : ((-a).tmod b).natAbs ≤ (-a).natAbs := by rw [Int.natAbs_tmod]; exact Nat.mod_le _ _
    rw [Int.neg_tmod] at h1 h2
    omega
theorem fdiv_has {k : IntKind} {a : Int} (h : k.min ≤ a ∧ a ≤ k.max) (n : Nat) : k.min ≤ a.fdiv (2 ^ n) ∧ a.fdiv (2 ^ n) ≤ k.max := by
  have hz := zero_has k
  have hp : (0 : Int) < 2 ^ n := Int.pow_pos (by decide)
  rw [Int.fdiv_eq_ediv_of_nonneg _ (by omega)]
  rcases Int.le_total 0 a with h0 | h0
  · have h1 : 0 ≤ a / 2 ^ n := Int.ediv_nonneg h0 (by omega)
    have h2 : a / 2 ^ n ≤ a := Int.ediv_le_self _ h0
    omega
  · have h1 : a / 2 ^ n ≤ 0 := by
      have := Int.ediv_le_ediv hp h0
      simpa using this
    have h2 : a ≤ a / 2 ^ n := by
      apply Int.le_ediv_of_mul_le hp
      have := Int.mul_nonneg (show 0 ≤ -a by omega) (show (0 : Int) ≤ 2 ^ n - 1 by omega)
      rw [Int.mul_sub, Int.mul_one, Int.neg_mul] at this
      omega
    omega

theorem strLt_eq : ∀ (a b : List UInt8), Op.bytesLess a b = strLt a b
  | _, [] => by unfold Op.bytesLess strLt; rfl
  | [], _ :: _ => by unfold Op.bytesLess strLt; rfl
  | a :: x, b :: y => by unfold Op.bytesLess strLt; rw [strLt_eq x y]
theorem bytes_list (s : List UInt8) : (⟨s.toArray⟩ : ByteArray).toList = s := by rw [ByteArray.toList_eq]
theorem bytes_size (s : List UInt8) : (⟨s.toArray⟩ : ByteArray).size = s.length := rfl
theorem bytes_append (a b : List UInt8) : (⟨a.toArray⟩ : ByteArray) ++ ⟨b.toArray⟩ = ⟨(a ++ b).toArray⟩ := by
  apply ByteArray.ext
  simp

section
variable {C : Ctx} (H : COK C) {ρ : List D} {β : Be} {w : World} {ok : Nat → Prop}

/-- A plain value of a kind. -/
theorem RepV.int {k : IntKind} {d : D} {v : Value} (h : RepV C w ok (.int k) d v) : ∃ n, d = .int n ∧ v = .int k n ∧ k.min ≤ n ∧ n ≤ k.max := by
  obtain ⟨cs, h1, rfl⟩ := h
  cases h1 with
  | int h => exact ⟨_, rfl, rfl, h⟩
theorem RepV.bool {d : D} {v : Value} (h : RepV C w ok .bool d v) : ∃ b, d = .bool b ∧ v = .bool b := by
  obtain ⟨cs, h1, rfl⟩ := h
  cases h1 with
  | bool => exact ⟨_, rfl, rfl⟩
theorem RepV.str {d : D} {v : Value} (h : RepV C w ok .str d v) : ∃ s : List UInt8, d = .str s ∧ v = .string ⟨s.toArray⟩ ∧ s.length ≤ 140737488355328 := by
  obtain ⟨cs, h1, rfl⟩ := h
  cases h1 with
  | str h => exact ⟨_, rfl, rfl, h⟩
theorem RepV.slice {e : Nat} {d : D} {v : Value} (h : RepV C w ok (.slice e) d v) : ∃ l a c, d = .list l ∧ v = .slice a l.length c ∧ l.length ≤ 140737488355328 ∧
    (l ≠ [] → ∃ b o cs, a = some ⟨b, o, none⟩ ∧ ok b ∧ RepL C w ok (C.kd e) l cs ∧ w.rangeAt b o cs ∧ l.length ≤ c ∧ c ≤ 9223372036854775807) := by
  obtain ⟨cs, h1, rfl⟩ := h
  cases h1 with
  | nils => exact ⟨[], _, _, rfl, rfl, by simp, fun h => absurd rfl h⟩
  | slice h0 hb hm hcap hc hl hr => exact ⟨_, _, _, rfl, rfl, hm, fun _ => ⟨_, _, _, rfl, hb, hl, hr, hcap, hc⟩⟩
theorem RepV.mkInt {k : IntKind} {n : Int} (h : k.min ≤ n ∧ n ≤ k.max) : RepV C w ok (.int k) (.int n) (.int k n) := ⟨_, .int h, rfl⟩
theorem RepV.mkBool {b : Bool} : RepV C w ok .bool (.bool b) (.bool b) := ⟨_, .bool, rfl⟩
theorem RepV.mkStr {s : List UInt8} (h : s.length ≤ 140737488355328) : RepV C w ok .str (.str s) (.string ⟨s.toArray⟩) := ⟨_, .str h, rfl⟩

/-- All of these expressions are true. -/
def allT (G : Nat → D) (ρ : List D) (l : List Ex) : Prop := ∀ e ∈ l, (e.ev G ρ).asB = true

theorem binI_ok {op : BinOp} {k : IntKind} {x y : Ex} {l : List Ex} {v : SV} {a b : Value} (h : binI op k x y = some (l, v)) (hx : RepV C w ok (.int k) (x.ev C.G ρ) a) (hy : RepV C w ok (.int k) (y.ev C.G ρ) b) (hl : allT C.G ρ l) (t : Nat) :
    ∃ r, (binOp op t a b).run C.P w = .ok r w ∧ RepSV C ρ β w ok v r := by
  obtain ⟨m, em, rfl, hm⟩ := hx.int
  obtain ⟨n, en, rfl, hn⟩ := hy.int
  have nz : ∀ {v'}, some ([Ex.un U1.not (Ex.bin U2.ieq y (Ex.int 0))], v') = some (l, v) → n ≠ 0 := by
    intro v' h'
    simp only [Option.some.injEq, Prod.mk.injEq] at h'
    have := hl (Ex.un U1.not (Ex.bin U2.ieq y (Ex.int 0))) (by rw [← h'.1]; simp)
    simp only [Ex.ev, U1.ev, U2.ev, en, D.asI, D.asB, Bool.not_eq_true', beq_eq_false_iff_ne] at this
    exact this
  unfold binI at h
  cases op <;> simp only [reduceCtorEq] at h
  case quo =>
    have := nz h
    simp only [Option.some.injEq, Prod.mk.injEq] at h
    obtain ⟨rfl, rfl⟩ := h
    exact ⟨.int k (k.wrap (m.tdiv n)), by simp [binOp, Op.intDiv, this], by simp only [RepSV, Ex.ev, U2.ev, em, en, D.asI]; exact RepV.mkInt (wrap_has _ _)⟩
  case rem =>
    have := nz h
    simp only [Option.some.injEq, Prod.mk.injEq] at h
    obtain ⟨rfl, rfl⟩ := h
    exact ⟨.int k (m.tmod n), by simp [binOp, Op.intDiv, this], by simp only [RepSV, Ex.ev, U2.ev, em, en, D.asI]; exact RepV.mkInt (tmod_has hm _)⟩
  all_goals
    simp only [Option.some.injEq, Prod.mk.injEq] at h
    obtain ⟨rfl, rfl⟩ := h
  case add => exact ⟨.int k (k.wrap (m + n)), by simp [binOp, Op.intArith], by simp only [RepSV, Ex.ev, U2.ev, em, en, D.asI]; exact RepV.mkInt (wrap_has _ _)⟩
  case sub => exact ⟨.int k (k.wrap (m - n)), by simp [binOp, Op.intArith], by simp only [RepSV, Ex.ev, U2.ev, em, en, D.asI]; exact RepV.mkInt (wrap_has _ _)⟩
  case mul => exact ⟨.int k (k.wrap (m * n)), by simp [binOp, Op.intArith], by simp only [RepSV, Ex.ev, U2.ev, em, en, D.asI]; exact RepV.mkInt (wrap_has _ _)⟩
  case eql => exact ⟨.bool (m == n), by simp [binOp, Op.intCmp], by simp only [RepSV, Ex.ev, U2.ev, em, en, D.asI]; exact RepV.mkBool⟩
  case neq => exact ⟨.bool (m != n), by simp [binOp, Op.intCmp], by simp only [RepSV, Ex.ev, U1.ev, U2.ev, em, en, D.asI, D.asB]; exact RepV.mkBool⟩
  case lss => exact ⟨.bool (decide (m < n)), by simp [binOp, Op.intCmp], by simp only [RepSV, Ex.ev, U2.ev, em, en, D.asI]; exact RepV.mkBool⟩
  case leq => exact ⟨.bool (decide (m ≤ n)), by simp [binOp, Op.intCmp], by simp only [RepSV, Ex.ev, U2.ev, em, en, D.asI]; exact RepV.mkBool⟩
  case gtr => exact ⟨.bool (decide (n < m)), by simp [binOp, Op.intCmp], by simp only [RepSV, Ex.ev, U2.ev, em, en, D.asI]; exact RepV.mkBool⟩
  case geq => exact ⟨.bool (decide (n ≤ m)), by simp [binOp, Op.intCmp], by simp only [RepSV, Ex.ev, U2.ev, em, en, D.asI]; exact RepV.mkBool⟩

theorem strLt_total {a b : List UInt8} : (strLt a b || a == b) = !strLt b a := by
  induction a generalizing b with
  | nil => cases b <;> simp [strLt]
  | cons x a ih =>
    cases b with
    | nil => simp [strLt]
    | cons y b =>
      simp only [strLt]
      rcases Nat.lt_trichotomy x.toNat y.toNat with h | h | h
      · have h1 : x < y := h
        have h2 : ¬ y < x := fun h2 => by have : y.toNat < x.toNat := h2; omega
        have h3 : ¬ x = y := fun e => by rw [e] at h; omega
        have h4 : ¬ y = x := fun e => h3 e.symm
        simp [h1, h2, h3, h4]
      · have h1 : x = y := UInt8.toNat_inj.1 h
        subst h1
        have h2 : ¬ x < x := fun h2 => by have : x.toNat < x.toNat := h2; omega
        have := ih (b := b)
        simp only [h2, decide_false, Bool.false_or, BEq.rfl, Bool.true_and]
        rw [← this]
        simp
      · have h1 : ¬ x < y := fun h2 => by have : x.toNat < y.toNat := h2; omega
        have h2 : y < x := h
        have h3 : ¬ x = y := fun e => by rw [e] at h; omega
        simp [h1, h2, h3]

theorem binS_ok {op : BinOp} {x y : Ex} {l : List Ex} {v : SV} {a b : Value} (h : binS op x y = some (l, v)) (hx : RepV C w ok .str (x.ev C.G ρ) a) (hy : RepV C w ok .str (y.ev C.G ρ) b) (hl : allT C.G ρ l) (t : Nat) :
    ∃ r, (binOp op t a b).run C.P w = .ok r w ∧ RepSV C ρ β w ok v r := by
  obtain ⟨m, em, rfl, hm⟩ := hx.str
  obtain ⟨n, en, rfl, hn⟩ := hy.str
  unfold binS at h
  cases op <;> simp only [reduceCtorEq, Option.some.injEq, Prod.mk.injEq] at h
  all_goals obtain ⟨rfl, rfl⟩ := h
  case add =>
    have := hl _ (List.mem_singleton.2 rfl)
    simp only [Ex.ev, U1.ev, U2.ev, em, en, D.asS, D.asI, D.asB, decide_eq_true_eq] at this
    refine ⟨.string ⟨(m ++ n).toArray⟩, ?_, by simp only [RepSV, Ex.ev, U2.ev, em, en, D.asS]; exact RepV.mkStr (by rw [List.length_append]; unfold maxN at this; omega)⟩
    have hs : ¬ (IntKind.i64.max < (m.length : Int) + (n.length : Int)) := by
      simp only [IntKind.max, IntKind.signed, IntKind.bits, if_true]; unfold maxN at this; omega
    simp only [binOp, Op.stringOp, bytes_size, Sem.run_ite, Int.natCast_add, gt_iff_lt, if_neg hs, bytes_append, Sem.run_pure]
  case eql => exact ⟨.bool (m == n), by simp [binOp, Op.stringOp, bytes_list], by simp only [RepSV, Ex.ev, U2.ev, em, en, D.asS]; exact RepV.mkBool⟩
  case neq => exact ⟨.bool (!(m == n)), by simp [binOp, Op.stringOp, bytes_list], by simp only [RepSV, Ex.ev, U1.ev, U2.ev, em, en, D.asS, D.asB]; exact RepV.mkBool⟩
  case lss => exact ⟨.bool (strLt m n), by simp [binOp, Op.stringOp, bytes_list, strLt_eq], by simp only [RepSV, Ex.ev, U2.ev, em, en, D.asS]; exact RepV.mkBool⟩
  case gtr => exact ⟨.bool (!(strLt m n || m == n)), by simp [binOp, Op.stringOp, bytes_list, strLt_eq], by simp only [RepSV, Ex.ev, U2.ev, em, en, D.asS]; rw [strLt_total, Bool.not_not]; exact RepV.mkBool⟩
  case leq => exact ⟨.bool (strLt m n || m == n), by simp [binOp, Op.stringOp, bytes_list, strLt_eq], by simp only [RepSV, Ex.ev, U1.ev, U2.ev, em, en, D.asS, D.asB]; rw [strLt_total]; exact RepV.mkBool⟩
  case geq => exact ⟨.bool (!(strLt m n)), by simp [binOp, Op.stringOp, bytes_list, strLt_eq], by simp only [RepSV, Ex.ev, U1.ev, U2.ev, em, en, D.asS, D.asB]; exact RepV.mkBool⟩

theorem eqFor_ok {op : BinOp} {x : Ex} {v : SV} {b : Bool} (h : eqFor op x = some v) (hx : x.ev C.G ρ = .bool b) : (op = .eql ∧ RepSV C ρ β w ok v (.bool b)) ∨ (op = .neq ∧ RepSV C ρ β w ok v (.bool !b)) := by
  unfold eqFor at h
  cases op <;> simp only [reduceCtorEq, Option.some.injEq] at h
  · subst h; exact .inl ⟨rfl, by simp only [RepSV, hx]; exact RepV.mkBool⟩
  · subst h; exact .inr ⟨rfl, by simp only [RepSV, Ex.ev, U1.ev, hx, D.asB]; exact RepV.mkBool⟩

include H in
/-- Flat values are compared without a look into memory. -/
theorem fl_eq : ∀ (n : Nat) (t : Nat) (d1 d2 : D) (c1 c2 : List Value) (m : Nat), fle C n (C.kd t) = true → n ≤ m → RepC C w ok (C.kd t) d1 c1 → RepC C w ok (C.kd t) d2 c2 →
    (Op.equalIn m t (wrap (C.kd t) c1) (wrap (C.kd t) c2)).run C.P w = .ok (D.beq d1 d2) w
  | 0, _, _, _, _, _, _, h, _, _, _ => by simp [fle] at h
  | n + 1, t, d1, d2, c1, c2, m, h, hm, h1, h2 => by
    obtain ⟨m, rfl⟩ : ∃ m', m = m' + 1 := ⟨m - 1, by omega⟩
    simp only [fle] at h
    cases hk : C.kd t with
    | int k =>
      rw [hk] at h1 h2
      cases h1; cases h2
      exact run_equalIn_int w m t k k _ _ (int_fact H hk).1
    | bool =>
      rw [hk] at h1 h2
      cases h1; cases h2
      exact run_equalIn_bool w m t _ _ (bool_fact H hk).1
    | str =>
      rw [hk] at h1 h2
      cases h1; cases h2
      rename_i s1 _ s2 _
      have := run_equalIn_string (P := C.P) w m t ⟨s1.toArray⟩ ⟨s2.toArray⟩ (str_fact H hk).1
      rw [bytes_list, bytes_list] at this
      exact this
    | struct t' =>
      obtain ⟨rfl, fs, hf⟩ := struct_fact hk
      obtain ⟨e, gs, g1, g2, g3, g4, g5, g6, g7⟩ := fields_fact H hf
      rw [hk] at h h1 h2
      simp only [hf] at h
      have hfo : C.P.fieldsOf t' = gs := by unfold Program.fieldsOf; rw [g3]
      cases h1 with
      | struct hf1 hF1 =>
        cases h2 with
        | struct hf2 hF2 =>
          rw [hf] at hf1 hf2
          simp only [Option.some.injEq] at hf1 hf2
          subst hf1; subst hf2
          rename_i ds1 ds2
          show (Op.equalIn (m + 1) t' (.agg c1.toArray) (.agg c2.toArray)).run C.P w = _
          rw [run_equalIn_struct w m t' _ _ (by rw [hfo]; exact g3) g7, hfo]
          have hall : ∀ f ∈ fs, fle C n (C.kd f) = true := fun f hm => List.all_eq_true.1 h f hm
          -- along the fields
          have key : ∀ (gl : List Field) (fs : List Nat) (o : Nat) (ds1 ds2 : List D) (p1 p2 q1 q2 : List Value), offsOK C gl fs o = true → (∀ f ∈ fs, fle C n (C.kd f) = true) →
              RepF C w ok fs ds1 q1 → RepF C w ok fs ds2 q2 → p1.length = o → p2.length = o → c1 = p1 ++ q1 → c2 = p2 ++ q2 →
              (Op.eqFields m c1.toArray c2.toArray gl).run C.P w = .ok (D.beqs ds1 ds2) w := by
            intro gl
            induction gl with
            | nil =>
              intro fs o ds1 ds2 p1 p2 q1 q2 ho _ r1 r2 _ _ _ _
              cases fs with
              | nil => cases r1; cases r2; simp [Op.eqFields, D.beqs]
              | cons => simp [offsOK] at ho
            | cons g gl ihg =>
              intro fs o ds1 ds2 p1 p2 q1 q2 ho hfl r1 r2 e1 e2 e3 e4
              cases fs with
              | nil => simp [offsOK] at ho
              | cons ft fs =>
                simp only [offsOK, Bool.and_eq_true, decide_eq_true_eq] at ho
                obtain ⟨⟨⟨⟨rfl, rfl⟩, hpos⟩, hnm⟩, ho⟩ := ho
                have hin : inTab C g.type = true := inTab_of_pos hpos
                cases r1 with
                | cons a1 b1 =>
                  cases r2 with
                  | cons a2 b2 =>
                    rename_i x1 l1 k1 k1' x2 l2 k2 k2'
                    have pt : ∀ (p k r : List Value) (c : List Value) (x : D), c = p ++ (k ++ r) → p.length = g.offset → RepC C w ok (C.kd g.type) x k → (part g.type c.toArray g.offset).run C.P w = .ok (wrap (C.kd g.type) k) w := by
                      intro p k r c x hc hp hx
                      have hkl : k.length = C.tsz g.type := by rw [RepC.len H hx, kd_size H hin]
                      obtain ⟨i, hi, his, _⟩ := info_fact H hin
                      cases hkd : C.kd g.type with
                      | struct t2 =>
                        obtain ⟨rfl, fs2, hf2⟩ := struct_fact hkd
                        obtain ⟨_, gs2, _, _, u3, _⟩ := fields_fact H hf2
                        simp only [part, isAgg, Sem.run_bind, run_underlying u3, Result.andThen_ok, Sem.run_pure, if_true, Go.sizeOf, typeInfo, run_program, hi, wrap, K.isRow]
                        rw [his, ← hkl, ← hp, hc]
                        congr 2
                        apply Array.ext'
                        simp
                      | arr t2 =>
                        obtain ⟨rfl, n2, e2, hf2⟩ := arrk_fact hkd
                        obtain ⟨u3, _⟩ := arr_fact H hf2
                        simp only [part, isAgg, Sem.run_bind, run_underlying u3, Result.andThen_ok, Sem.run_pure, if_true, Go.sizeOf, typeInfo, run_program, hi, wrap, K.isRow]
                        rw [his, ← hkl, ← hp, hc]
                        congr 2
                        apply Array.ext'
                        simp
                      | int q =>
                        rw [hkd] at hx; cases hx
                        have := int_fact H hkd
                        simp [part, isAgg, run_underlying this.1, hc, ← hp, wrap, K.isRow]
                      | bool =>
                        rw [hkd] at hx; cases hx
                        have := bool_fact H hkd
                        simp [part, isAgg, run_underlying this.1, hc, ← hp, wrap, K.isRow]
                      | str =>
                        rw [hkd] at hx; cases hx
                        have := str_fact H hkd
                        simp [part, isAgg, run_underlying this.1, hc, ← hp, wrap, K.isRow]
                      | _ =>
                        have := hfl g.type (List.mem_cons_self ..)
                        rw [hkd] at this
                        cases n <;> simp [fle] at this
                    have E := fl_eq n g.type x1 x2 k1 k2 m (hfl _ (List.mem_cons_self ..)) (by omega) a1 a2
                    have hnm' : g.name ≠ "_" := by simpa using hnm
                    simp only [Op.eqFields, ne_eq, hnm', not_false_eq_true, if_true, Sem.run_bind, pt p1 k1 k1' c1 x1 e3 e1 a1, pt p2 k2 k2' c2 x2 e4 e2 a2, Result.andThen_ok, E, D.beqs]
                    cases hb : D.beq x1 x2 with
                    | false => simp
                    | true =>
                      simp only [Bool.not_true, Bool.false_eq_true, if_false, Bool.true_and]
                      have kl1 : k1.length = C.tsz g.type := by rw [RepC.len H a1, kd_size H hin]
                      have kl2 : k2.length = C.tsz g.type := by rw [RepC.len H a2, kd_size H hin]
                      exact ihg fs (g.offset + C.tsz g.type) l1 l2 (p1 ++ k1) (p2 ++ k2) k1' k2' ho (fun f hm => hfl f (List.mem_cons_of_mem _ hm)) b1 b2 (by simp [e1, kl1]) (by simp [e2, kl2]) (by simp [e3]) (by simp [e4])
          exact key gs.toList fs 0 ds1 ds2 [] [] c1 c2 g4 hall hF1 hF2 rfl rfl rfl rfl
    | arr t' => rw [hk] at h; simp at h
    | slice e => rw [hk] at h; simp at h
    | ptr e => rw [hk] at h; simp at h
    | func e => rw [hk] at h; simp at h
    | bad => rw [hk] at h; simp at h
end
end Sy

/- The operations that only compute or read: whole operations. -/
namespace Sy
open Go Go.RowKit

section
variable {C : Ctx} (H : COK C) {ρ : List D} {β : Be} {w w0 : World} {ok : Nat → Prop} {ob : Obs}

def Value.plainV : Value → Bool
  | .agg _ | .nilIface => false
  | _ => true
theorem guard_plain {op : BinOp} {t : Nat} {x y : Operand} {a b : Value} (h : Value.plainV a = true) : (eqGuard op t x y a b).run C.P w = .ok () w := by
  unfold eqGuard
  cases op <;> simp <;> (cases a <;> first | (simp [Value.plainV] at h; done) | (cases b <;> simp))

include H in
theorem guardType_fle : ∀ (n : Nat) (t d : Nat), fle C n (C.kd t) = true → n ≤ d → C.P.eqGuardType d t = false
  | 0, _, _, h, _ => by simp [fle] at h
  | n + 1, t, d, h, hd => by
    obtain ⟨d, rfl⟩ : ∃ d', d = d' + 1 := ⟨d - 1, by omega⟩
    simp only [fle] at h
    cases hk : C.kd t with
    | int k => simp [Program.eqGuardType, (int_fact H hk).1]
    | bool => simp [Program.eqGuardType, (bool_fact H hk).1]
    | str => simp [Program.eqGuardType, (str_fact H hk).1]
    | struct t' =>
      obtain ⟨rfl, fs, hf⟩ := struct_fact hk
      obtain ⟨e, gs, g1, g2, g3, g4, g5, g6, g7⟩ := fields_fact H hf
      rw [hk] at h
      simp only [hf] at h
      have hall : ∀ f ∈ fs, fle C n (C.kd f) = true := fun f hm => List.all_eq_true.1 h f hm
      simp only [Program.eqGuardType, g3]
      have key : ∀ (gl : List Field) (fs : List Nat) (o : Nat), offsOK C gl fs o = true → (∀ f ∈ fs, fle C n (C.kd f) = true) → gl.any (fun f => f.name != "_" && C.P.eqGuardType d f.type) = false := by
        intro gl
        induction gl with
        | nil => intro _ _ _ _; rfl
        | cons g gl ih =>
          intro fs o ho hfl
          cases fs with
          | nil => simp [offsOK] at ho
          | cons ft fs =>
            simp only [offsOK, Bool.and_eq_true, decide_eq_true_eq] at ho
            obtain ⟨⟨⟨⟨rfl, rfl⟩, hpos⟩, hnm⟩, ho⟩ := ho
            rw [List.any_cons, guardType_fle n g.type d (hfl _ (List.mem_cons_self ..)) (by omega), ih fs _ ho (fun f hm => hfl f (List.mem_cons_of_mem _ hm))]
            simp
      rw [← Array.any_toList]
      exact key gs.toList fs 0 g4 hall
    | _ => rw [hk] at h; simp at h

theorem eq_nil_ptr {t e : Nat} (hu : C.P.underlying t = some (.pointer e)) (a : Option Addr) : (Op.equal t (.pointer a) (.pointer none)).run C.P w = .ok a.isNone w := by
  unfold Op.equal Op.maxDepth
  generalize hn : 10000 = n
  obtain ⟨n, rfl⟩ : ∃ m, n = m + 1 := ⟨n - 1, by omega⟩
  simp only [Op.equalIn, Sem.run_bind, run_underlying hu, Result.andThen_ok]
  cases a <;> rfl
theorem eq_nil_slice {t e : Nat} (hu : C.P.underlying t = some (.slice e)) (a : Option Addr) (n c : Nat) : (Op.equal t (.slice a n c) (.slice none 0 0)).run C.P w = .ok a.isNone w := by
  unfold Op.equal Op.maxDepth
  generalize hn : 10000 = n
  obtain ⟨n, rfl⟩ : ∃ m, n = m + 1 := ⟨n - 1, by omega⟩
  simp only [Op.equalIn, Sem.run_bind, run_underlying hu, Result.andThen_ok]
  cases a <;> simp
theorem RepV.ptr {e : Nat} {d : D} {v : Value} (h : RepV C w ok (.ptr e) d v) : (d = .nil ∧ v = .pointer none) ∨ ∃ d' b o cs, d = .ptr d' ∧ v = .pointer (some ⟨b, o, none⟩) ∧ ok b ∧ RepC C w ok (C.kd e) d' cs ∧ w.rangeAt b o cs := by
  obtain ⟨cs, h1, rfl⟩ := h
  cases h1 with
  | nilp => exact .inl ⟨rfl, rfl⟩
  | ptr hb hd hr => exact .inr ⟨_, _, _, _, rfl, rfl, hb, hd, hr⟩
theorem plain_int {k n} : Value.plainV (.int k n) = true := rfl

include H in
theorem binV_ok (hob : ∀ m o, ob m = some o → RepOb C w0 ρ β w ok m o) {op : BinOp} {t : Nat} {a b : SV} {l : List Ex} {v : SV} {x y : Value} (h : binV C ob op t a b = some (l, v)) (hx : RepSV C ρ β w ok a x) (hy : RepSV C ρ β w ok b y) (hl : allT C.G ρ l) (p q : Operand) :
    ∃ r, (do eqGuard op t p q x y; binOp op t x y : Sem Value).run C.P w = .ok r w ∧ RepSV C ρ β w ok v r := by
  have fin : Value.plainV x = true → (∃ r, (binOp op t x y).run C.P w = .ok r w ∧ RepSV C ρ β w ok v r) → ∃ r, (do eqGuard op t p q x y; binOp op t x y : Sem Value).run C.P w = .ok r w ∧ RepSV C ρ β w ok v r := by
    rintro hp ⟨r, h1, h2⟩
    exact ⟨r, by rw [Sem.run_bind, guard_plain hp, Result.andThen_ok, h1], h2⟩
  unfold binV at h
  split at h
  · -- shl
    simp only [Option.some.injEq, Prod.mk.injEq] at h
    obtain ⟨rfl, rfl⟩ := h
    obtain ⟨m, em, rfl, hm⟩ := RepV.int hx
    obtain ⟨n, en, rfl, hn⟩ := RepV.int hy
    have := hl _ (List.mem_singleton.2 rfl)
    simp only [Ex.ev, U2.ev, en, D.asI, D.asB, decide_eq_true_eq] at this
    rename_i k1 x1 k2 y1
    refine fin rfl ⟨.int k1 (k1.wrap (m * 2 ^ (Nat.min n.toNat k1.bits))), ?_, ?_⟩
    · simp only [binOp, Op.shift, if_neg (show ¬ n < 0 by omega), Sem.run_pure]
    · simp only [RepSV, Ex.ev, U2.ev, em, en, D.asI]; exact RepV.mkInt (wrap_has _ _)
  · -- shr
    simp only [Option.some.injEq, Prod.mk.injEq] at h
    obtain ⟨rfl, rfl⟩ := h
    obtain ⟨m, em, rfl, hm⟩ := RepV.int hx
    obtain ⟨n, en, rfl, hn⟩ := RepV.int hy
    have := hl _ (List.mem_singleton.2 rfl)
    simp only [Ex.ev, U2.ev, en, D.asI, D.asB, decide_eq_true_eq] at this
    rename_i k1 x1 k2 y1
    refine fin rfl ⟨.int k1 (m.fdiv (2 ^ (Nat.min n.toNat k1.bits))), ?_, ?_⟩
    · simp only [binOp, Op.shift, if_neg (show ¬ n < 0 by omega), Sem.run_pure]
    · simp only [RepSV, Ex.ev, U2.ev, em, en, D.asI]; exact RepV.mkInt (fdiv_has hm _)
  · split at h
    · rename_i hk
      subst hk
      obtain ⟨m, em, rfl, hm⟩ := RepV.int hx
      exact fin rfl (binI_ok h hx hy hl t)
    · simp at h
  · obtain ⟨m, em, rfl, hm⟩ := RepV.str hx
    exact fin rfl (binS_ok h hx hy hl t)
  · -- bools
    split at h
    · rename_i hk
      obtain ⟨m, em, rfl⟩ := RepV.bool hx
      obtain ⟨n, en, rfl⟩ := RepV.bool hy
      simp only [Option.map_eq_some_iff, Prod.mk.injEq] at h
      obtain ⟨v', h1, rfl, rfl⟩ := h
      have hu := (bool_fact H hk).1
      have E := run_equalIn_bool (P := C.P) w 9999 t m n hu
      rcases eqFor_ok (C := C) (ρ := ρ) (β := β) (w := w) (ok := ok) h1 (b := m == n) (by simp only [Ex.ev, U2.ev, em, en, D.asB]) with ⟨rfl, h2⟩ | ⟨rfl, h2⟩
      · exact fin rfl ⟨_, by simp only [binOp, Op.equal, Op.maxDepth, Sem.run_bind, E, Result.andThen_ok, Sem.run_pure], h2⟩
      · exact fin rfl ⟨_, by simp only [binOp, Op.equal, Op.maxDepth, Sem.run_bind, E, Result.andThen_ok, Sem.run_pure], h2⟩
    · simp at h
  · -- a pointer that is none of nil
    split at h
    · rename_i mm pp tt _ e hk
      simp only [Option.map_eq_some_iff, Prod.mk.injEq] at h
      obtain ⟨v', h1, rfl, rfl⟩ := h
      obtain ⟨off, _, rfl⟩ := hx
      simp only [RepSV] at hy
      subst hy
      have hu := (ptr_fact H hk).1
      have E : (Op.equal t (.pointer (some ⟨β.bk mm, off, none⟩)) (.pointer none)).run C.P w = .ok false w := eq_nil_ptr hu _
      rcases eqFor_ok (C := C) (ρ := ρ) (β := β) (w := w) (ok := ok) h1 (b := false) rfl with ⟨rfl, h2⟩ | ⟨rfl, h2⟩
      · exact fin rfl ⟨_, by simp only [binOp, Sem.run_bind, E, Result.andThen_ok, Sem.run_pure, Bool.not_true, Bool.not_false], h2⟩
      · exact fin rfl ⟨_, by simp only [binOp, Sem.run_bind, E, Result.andThen_ok, Sem.run_pure, Bool.not_true, Bool.not_false], h2⟩
    · simp at h
  · split at h
    · rename_i hk
      simp only [Option.some.injEq, Prod.mk.injEq] at h
      obtain ⟨rfl, rfl⟩ := h
      simp only [RepSV] at hy
      subst hy
      have hu := (slice_fact H hk).1
      obtain ⟨ll, a', c', h1, rfl, h2, h3⟩ := RepV.slice hx
      have E : (Op.equal t (.slice a' ll.length c') (.slice none 0 0)).run C.P w = .ok a'.isNone w := eq_nil_slice hu _ _ _
      refine fin rfl ⟨.bool a'.isNone, by simp only [binOp, Sem.run_bind, E, Result.andThen_ok, Sem.run_pure], a'.isNone, rfl, fun hb => ?_⟩
      rw [h1]
      simp only [D.asL]
      refine Classical.byContradiction fun hne => ?_
      obtain ⟨b, o, cs, rfl, _⟩ := h3 hne
      simp at hb
    · simp at h
  · split at h
    · rename_i hk
      simp only [Option.map_eq_some_iff, Prod.mk.injEq] at h
      obtain ⟨v', h1, rfl, rfl⟩ := h
      simp only [RepSV] at hy
      subst hy
      have hu := (ptr_fact H hk).1
      rcases RepV.ptr hx with ⟨hd, rfl⟩ | ⟨d', b', o', cs, hd, rfl, _, _, _⟩
      · have E : (Op.equal t (.pointer none) (.pointer none)).run C.P w = .ok true w := eq_nil_ptr hu _
        rcases eqFor_ok (C := C) (ρ := ρ) (β := β) (w := w) (ok := ok) h1 (b := true) (by simp only [Ex.ev, U1.ev, hd, D.isP, D.asB, Bool.not_false]) with ⟨rfl, h2⟩ | ⟨rfl, h2⟩
        · exact fin rfl ⟨_, by simp only [binOp, Sem.run_bind, E, Result.andThen_ok, Sem.run_pure, Bool.not_true, Bool.not_false], h2⟩
        · exact fin rfl ⟨_, by simp only [binOp, Sem.run_bind, E, Result.andThen_ok, Sem.run_pure, Bool.not_true, Bool.not_false], h2⟩
      · have E : (Op.equal t (.pointer (some ⟨b', o', none⟩)) (.pointer none)).run C.P w = .ok false w := eq_nil_ptr hu _
        rcases eqFor_ok (C := C) (ρ := ρ) (β := β) (w := w) (ok := ok) h1 (b := false) (by simp only [Ex.ev, U1.ev, hd, D.isP, D.asB, Bool.not_true]) with ⟨rfl, h2⟩ | ⟨rfl, h2⟩
        · exact fin rfl ⟨_, by simp only [binOp, Sem.run_bind, E, Result.andThen_ok, Sem.run_pure, Bool.not_true, Bool.not_false], h2⟩
        · exact fin rfl ⟨_, by simp only [binOp, Sem.run_bind, E, Result.andThen_ok, Sem.run_pure, Bool.not_true, Bool.not_false], h2⟩
    · simp at h
  · -- structs
    split at h
    · rename_i t' hk
      split at h
      · rename_i hc
        obtain ⟨rfl, hfl⟩ := hc
        split at h
        · rename_i e1 e2 h1 h2
          simp only [Option.map_eq_some_iff, Prod.mk.injEq] at h
          obtain ⟨v', h3, rfl, rfl⟩ := h
          obtain ⟨c1, r1, rfl⟩ := (toD_all H hob depth).2.1 _ _ _ _ _ h1 hx
          obtain ⟨c2, r2, rfl⟩ := (toD_all H hob depth).2.1 _ _ _ _ _ h2 hy
          rw [← hk] at hfl r1 r2
          have E := fl_eq H 12 t' _ _ c1 c2 10000 hfl (by omega) r1 r2
          have hgt : C.P.eqGuardType C.P.depth t' = false := guardType_fle H 12 t' _ hfl (by unfold Program.depth Made.depth; omega)
          rw [hk] at E
          have E : (Op.equalIn 10000 t' (.agg c1.toArray) (.agg c2.toArray)).run C.P w = .ok (D.beq (e1.ev C.G ρ) (e2.ev C.G ρ)) w := E
          have hG := run_eqGuard_agg (P := C.P) w op t' p q c1.toArray c2.toArray hgt
          show ∃ r, (do eqGuard op t' p q (.agg c1.toArray) (.agg c2.toArray); binOp op t' (.agg c1.toArray) (.agg c2.toArray) : Sem Value).run C.P w = .ok r w ∧ _
          rw [Sem.run_bind, hG, Result.andThen_ok]
          rcases eqFor_ok (C := C) (ρ := ρ) (β := β) (w := w) (ok := ok) h3 (b := D.beq (e1.ev C.G ρ) (e2.ev C.G ρ)) rfl with ⟨rfl, h2⟩ | ⟨rfl, h2⟩
          · exact ⟨_, by simp only [binOp, Op.equal, Op.maxDepth, Sem.run_bind, E, Result.andThen_ok, Sem.run_pure], h2⟩
          · exact ⟨_, by simp only [binOp, Op.equal, Op.maxDepth, Sem.run_bind, E, Result.andThen_ok, Sem.run_pure], h2⟩
        · simp at h
      · simp at h
    · simp at h

/-! ### Reading -/
theorem isAgg_row (H : COK C) {t : Nat} (ht : inTab C t = true) : (isAgg t).run C.P w = .ok (C.kd t).isRow w := by
  unfold isAgg
  cases hk : C.kd t with
  | int k => simp [run_underlying (int_fact H hk).1, K.isRow]
  | bool => simp [run_underlying (bool_fact H hk).1, K.isRow]
  | str => simp [run_underlying (str_fact H hk).1, K.isRow]
  | slice e => simp [run_underlying (slice_fact H hk).1, K.isRow]
  | ptr e => simp [run_underlying (ptr_fact H hk).1, K.isRow]
  | struct t' =>
    obtain ⟨rfl, fs, hf⟩ := struct_fact hk
    obtain ⟨_, gs, _, _, g3, _⟩ := fields_fact H hf
    simp [run_underlying g3, K.isRow]
  | arr t' =>
    obtain ⟨rfl, n, e, hf⟩ := arrk_fact hk
    simp [run_underlying (arr_fact H hf).1, K.isRow]
  | func t' =>
    unfold Ctx.kd at hk
    cases hl : look C.tys t with
    | none => simp [hl] at hk
    | some x =>
      obtain ⟨td, sz, by_⟩ := x
      simp only [hl] at hk
      cases td <;> simp only [reduceCtorEq, K.func.injEq] at hk
      subst hk
      simp [run_underlying ((H.fact hl).func _ _ rfl).1, K.isRow]
  | bad =>
    unfold Ctx.kd at hk
    unfold inTab Ctx.te at ht
    cases hl : look C.tys t with
    | none => simp [hl] at ht
    | some x =>
      obtain ⟨td, sz, by_⟩ := x
      simp only [hl] at hk
      cases td <;> simp at hk
theorem size_run (H : COK C) {t : Nat} (ht : inTab C t = true) : (Go.sizeOf t).run C.P w = .ok (C.tsz t) w := by
  obtain ⟨i, hi, hs, _⟩ := info_fact H ht
  simp [Go.sizeOf, typeInfo, hi, hs]
/-- A variable is read. -/
theorem load_run (H : COK C) {t b o : Nat} {cs : List Value} (ht : inTab C t = true) (hl : cs.length = C.tsz t) (hr : w.rangeAt b o cs) : (Instr.loadAt t (.pointer (some ⟨b, o, none⟩))).run C.P w = .ok (wrap (C.kd t) cs) w := by
  have ha := isAgg_row (w := w) H ht
  have hz := size_run (w := w) H ht
  simp only [Instr.loadAt, Instr.sureAddr, Sem.run_bind, Sem.run_pure, Result.andThen_ok, loadVar, ha]
  unfold wrap
  cases hk : (C.kd t).isRow with
  | true =>
    have hc := run_loadCells_list (P := C.P) w ⟨b, o, none⟩ cs (fun j v hv => by rw [Addr.add_mid]; exact hr j v hv)
    simp only [if_true, Sem.run_bind, hz, Result.andThen_ok, ← hl, hc, Sem.run_pure]
  | false =>
    have h1 : cs.length = 1 := by rw [hl, ← kd_size H ht, ksz_one hk]
    match cs, h1 with
    | [u], _ =>
      have := hr 0 u rfl
      rw [Nat.add_zero] at this
      simp [this]
/-- A variable is written. -/
theorem store_run (H : COK C) {t b o : Nat} {xs : List Value} (ht : inTab C t = true) (hl : xs.length = C.tsz t) (h1 : ∀ u ∈ xs, u.oneCell' = true) (hc : (wrap (C.kd t) xs).cells = xs.toArray) (hth : w.there b o xs.length) :
    (Instr.storeAt t (.pointer (some ⟨b, o, none⟩)) (wrap (C.kd t) xs)).run C.P w = .ok () (w.setCells b o xs) := by
  have hz := size_run (w := w) H ht
  have := run_storeCells_cells (P := C.P) b o xs 0 w (fun j hj => by simpa using (hth j (by simpa using hj)).1) (fun j hj => by simpa using (hth j (by simpa using hj)).2) h1
  simp only [Nat.add_zero] at this
  simp [Instr.storeAt, Instr.sureAddr, storeVar, hc, hz, hl, this]
theorem offsOK_get : ∀ {gs : List Field} {fs : List Nat} {o i ft : Nat}, offsOK C gs fs o = true → fs[i]? = some ft → ∃ g, gs[i]? = some g ∧ g.type = ft ∧ g.offset = o + sumSz C (fs.take i) ∧ 0 < C.tsz ft
  | [], [], _, _, _, _, h => by simp at h
  | [], _ :: _, _, _, _, h, _ => by simp [offsOK] at h
  | _ :: _, [], _, _, _, _, h => by simp at h
  | g :: gs, t :: ts, o, i, ft, h, hi => by
    simp only [offsOK, Bool.and_eq_true, decide_eq_true_eq] at h
    obtain ⟨⟨⟨⟨h1, h2⟩, h3⟩, h4⟩, h5⟩ := h
    cases i with
    | zero =>
      simp only [List.getElem?_cons_zero, Option.some.injEq] at hi
      subst hi
      exact ⟨g, rfl, h1, by simp [sumSz, h2], h3⟩
    | succ i =>
      obtain ⟨g', e1, e2, e3, e4⟩ := offsOK_get h5 (i := i) (by simpa using hi)
      exact ⟨g', by simpa using e1, e2, by rw [e3]; simp only [List.take_succ_cons, sumSz]; omega, e4⟩
/-- The address of a field. -/
theorem field_run (H : COK C) {s i ft b o : Nat} {fs : List Nat} (hf : C.fields s = some fs) (hi : fs[i]? = some ft) :
    (Instr.fieldAt s (.pointer (some ⟨b, o, none⟩)) i).run C.P w = .ok (.pointer (some ⟨b, o + sumSz C (fs.take i), none⟩)) w := by
  obtain ⟨e, gs, g1, g2, g3, g4, g5, g6, g7⟩ := fields_fact H hf
  obtain ⟨g, e1, e2, e3, e4⟩ := offsOK_get g4 hi
  have hg : gs[i]? = some g := by simpa using e1
  subst e2
  have hz := size_run (w := w) H (inTab_of_pos e4)
  have hne : C.tsz g.type ≠ 0 := by omega
  simp [Instr.fieldAt, run_underlying g3, hg, Instr.sureAddr, fieldPlace, hz, hne, e3, Addr.add_mid]

theorem offP_snoc : ∀ (p : List Nat) {t o s i ft : Nat} {fs : List Nat}, offP C t p = some (o, s) → C.fields s = some fs → fs[i]? = some ft → offP C t (p ++ [i]) = some (o + sumSz C (fs.take i), ft)
  | [], t, o, s, i, ft, fs, h, hf, hi => by
    simp only [offP, Option.some.injEq, Prod.mk.injEq] at h
    obtain ⟨rfl, rfl⟩ := h
    simp [offP, hf, hi]
  | j :: p, t, o, s, i, ft, fs, h, hf, hi => by
    simp only [offP] at h
    cases h1 : C.fields t with
    | none => simp [h1] at h
    | some gs =>
      simp only [h1] at h
      cases h2 : gs[j]? with
      | none => simp [h2] at h
      | some gt =>
        simp only [h2] at h
        cases h3 : offP C gt p with
        | none => simp [h3] at h
        | some q =>
          obtain ⟨o', t'⟩ := q
          simp only [h3, Option.some.injEq, Prod.mk.injEq] at h
          obtain ⟨rfl, rfl⟩ := h
          have := offP_snoc p h3 hf hi
          simp only [List.cons_append, offP, h1, h2, this]
          congr 2
          omega

theorem fieldSV_ok (H : COK C) {s i : Nat} {v r : SV} {x : Value} (h : fieldSV C s i v = some r) (hx : RepSV C ρ β w ok v x) : ∃ y, (Instr.fieldAt s x i).run C.P w = .ok y w ∧ RepSV C ρ β w ok r y := by
  unfold fieldSV at h
  cases hf : C.fields s with
  | none => simp [hf] at h
  | some fs =>
    simp only [hf] at h
    cases hi : fs[i]? with
    | none => simp [hi] at h
    | some ft =>
      simp only [hi] at h
      split at h
      · split at h
        · rename_i ht
          subst ht
          simp only [Option.some.injEq] at h
          subst h
          obtain ⟨off, h1, rfl⟩ := hx
          exact ⟨_, field_run H hf hi, _, offP_snoc _ h1 hf hi, rfl⟩
        · simp at h
      · split at h
        · rename_i ht
          subst ht
          simp only [Option.some.injEq] at h
          subst h
          obtain ⟨off, b, l, c, h1, h2, h3, h4, rfl⟩ := hx
          exact ⟨_, field_run H hf hi, _, b, l, c, offP_snoc _ h1 hf hi, h2, h3, h4, by rw [Nat.add_assoc]⟩
        · simp at h
      · split at h
        · rename_i ht
          subst ht
          simp only [Option.some.injEq] at h
          subst h
          rename_i e
          obtain ⟨_, gs, _, _, _, g4, _, g6, _⟩ := fields_fact H hf
          obtain ⟨cs, h1, rfl⟩ := hx
          cases h1 with
          | ptr hb hd hr =>
            rw [g6] at hd
            generalize he : e.ev C.G ρ = d at hd
            cases hd with
            | struct hf' hF =>
              rw [hf] at hf'
              simp only [Option.some.injEq] at hf'
              subst hf'
              obtain ⟨d', pre, c1, post, k1, k2, k3, k4⟩ := RepF.get H hF (offs_in g4) hi
              refine ⟨_, field_run H hf hi, ?_⟩
              simp only [RepSV, Ex.ev, U1.ev]
              refine ⟨_, .ptr hb (d := (fldE e i).ev C.G ρ) (by rw [fldE_ev, he]; simp only [D.asA]; rw [at_get k1]; exact k4) (Part.range hr ⟨pre, post, k2, k3⟩), rfl⟩
        · simp at h
      · simp at h
end
end Sy

/- The operations that read memory, and the rest of those that only compute. -/
namespace Sy
open Go Go.RowKit

section
variable {C : Ctx} (H : COK C) {ρ : List D} {β : Be} {w w0 : World} {ok : Nat → Prop} {ob : Obs}

theorem offP_inTab (H : COK C) : ∀ (p : List Nat) {t o t' : Nat}, inTab C t = true → offP C t p = some (o, t') → inTab C t' = true
  | [], t, o, t', h, ho => by simp only [offP, Option.some.injEq, Prod.mk.injEq] at ho; rw [← ho.2]; exact h
  | i :: p, t, o, t', h, ho => by
    simp only [offP] at ho
    cases hf : C.fields t with
    | none => simp [hf] at ho
    | some fs =>
      simp only [hf] at ho
      cases hi : fs[i]? with
      | none => simp [hi] at ho
      | some ft =>
        simp only [hi] at ho
        cases h3 : offP C ft p with
        | none => simp [h3] at ho
        | some q =>
          obtain ⟨o1, t1⟩ := q
          simp only [h3, Option.some.injEq, Prod.mk.injEq] at ho
          obtain ⟨_, rfl⟩ := ho
          obtain ⟨_, gs, _, _, _, g4, _⟩ := fields_fact H hf
          exact offP_inTab H p (offs_in g4 ft (List.mem_of_getElem? hi)) h3
theorem ptr_inTab (H : COK C) {e : Nat} {d : D} {b o : Nat} {cs : List Value} (hd : RepC C w ok (C.kd e) d cs) : inTab C e = true ∨ C.kd e = .bad := by
  unfold Ctx.kd inTab Ctx.te
  cases hl : look C.tys e with
  | none => exact .inr rfl
  | some x => exact .inl rfl
theorem inTab_rep {e : Nat} {d : D} {cs : List Value} (hd : RepC C w ok (C.kd e) d cs) : inTab C e = true := by
  unfold inTab Ctx.te
  cases hl : look C.tys e with
  | none =>
    have : C.kd e = .bad := by unfold Ctx.kd; rw [hl]
    rw [this] at hd
    cases hd
  | some x => rfl

/-- An element's cells, wherever the row lies. -/
theorem eptr_cells (H : COK C) {e c' : Ex} {m ver off b l cp t : Nat} {i : Ex} {p : List Nat} {x : Ex} {o : Ob} (R : RepOb C w0 ρ β w ok m o) (ho : (∃ e ver', o = .arr e c' ver' ∧ ver = ver') ∨ (∃ e ver', o = .farr e c' ver' ∧ ver = ver'))
    (h1 : offP C (β.ty m) p = some (off, t)) (h2 : β.vl m ver = .slice (some ⟨b, 0, none⟩) l cp) (h3 : 0 ≤ (i.ev C.G ρ).asI) (h4 : (i.ev C.G ρ).asI < l) (hp : projD C (.bin .idx c' i) (β.ty m) p = some (x, t)) :
    ∃ c1 ll cs c0, c'.ev C.G ρ = .list ll ∧ l = ll.length ∧ RepL C w ok (C.kd (β.ty m)) ll cs ∧ w.rangeAt b 0 cs ∧ RepC C w ok (C.kd t) (x.ev C.G ρ) c1 ∧ w.rangeAt b ((i.ev C.G ρ).asI.toNat * C.tsz (β.ty m) + off) c1 ∧ Part cs ((i.ev C.G ρ).asI.toNat * C.tsz (β.ty m)) c0 ∧ RepC C w ok (C.kd (β.ty m)) (at_ ll (i.ev C.G ρ).asI.toNat) c0 ∧ Part c0 off c1 ∧ inTab C (β.ty m) = true := by
  rcases ho with ⟨e', ver', rfl, rfl⟩ | ⟨e', ver', rfl, rfl⟩
  · obtain ⟨rfl, he, ll, cs, hcc, hl, hmx, hown⟩ := R
    obtain ⟨a', c'', hs⟩ := ownsRow_slice hown
    rw [h2] at hs
    simp only [Value.slice.injEq] at hs
    obtain ⟨rfl, rfl, rfl⟩ := hs
    have hb' : (β.vl m ver).ownBlock = some b := by rw [h2]; rfl
    have hr := ownsRow_range hown hb'
    obtain ⟨c0, k1, k2⟩ := hl.at_ H (i := (i.ev C.G ρ).asI.toNat) (by omega)
    rw [kd_size H he] at k1
    obtain ⟨off', c1, g1, g2, g3⟩ := projD_ok H p hp (cs := c0) (show RepC C w ok (C.kd (β.ty m)) (at_ (D.asL (c'.ev C.G ρ)) (i.ev C.G ρ).asI.toNat) c0 by rw [hcc]; exact k2)
    rw [h1] at g1
    simp only [Option.some.injEq, Prod.mk.injEq] at g1
    obtain ⟨rfl, _⟩ := g1
    have := (k1.trans g2).range hr
    rw [Nat.zero_add] at this
    exact ⟨c1, ll, cs, c0, hcc, rfl, hl, hr, g3, this, k1, k2, g2, he⟩
  · obtain ⟨rfl, he, ⟨cs, hcc, hwr⟩, _⟩ := R
    generalize hev : c'.ev C.G ρ = dd at hcc
    rw [h2] at hwr
    cases hcc with
    | nils =>
      simp only [wrap, K.isRow, Bool.false_eq_true, if_false, List.headD_cons, Value.slice.injEq] at hwr
      omega
    | slice g0 gb gm gcap gc gl gr =>
      simp only [wrap, K.isRow, Bool.false_eq_true, if_false, List.headD_cons, Value.slice.injEq, Option.some.injEq, Addr.mk.injEq, and_true] at hwr
      obtain ⟨⟨rfl, rfl⟩, rfl, rfl⟩ := hwr
      rename_i ll cs'
      obtain ⟨c0, k1, k2⟩ := gl.at_ H (i := (i.ev C.G ρ).asI.toNat) (by omega)
      rw [kd_size H he] at k1
      obtain ⟨off', c1, g1, g2, g3⟩ := projD_ok H p hp (cs := c0) (show RepC C w ok (C.kd (β.ty m)) (at_ (D.asL (c'.ev C.G ρ)) (i.ev C.G ρ).asI.toNat) c0 by rw [hev]; exact k2)
      rw [h1] at g1
      simp only [Option.some.injEq, Prod.mk.injEq] at g1
      obtain ⟨rfl, _⟩ := g1
      have := (k1.trans g2).range gr
      rw [Nat.zero_add] at this
      exact ⟨c1, ll, cs', c0, rfl, rfl, gl, gr, g3, this, k1, k2, g2, he⟩

theorem RepSVs.len {ok : Nat → Prop} : ∀ {l : List SV} {vs : List Value}, RepSVs C ρ β w ok l vs → vs.length = l.length
  | [], _, h => by rw [show _ = [] from h]; rfl
  | _ :: _, _, ⟨v, r, h1, h2, h3⟩ => by rw [h1, List.length_cons, List.length_cons, RepSVs.len h3]

theorem loadV_ok (H : COK C) (hob : ∀ m o, ob m = some o → RepOb C w0 ρ β w ok m o) {t : Nat} {a v : SV} {x : Value} (h : loadV C ob t a = some v) (hx : RepSV C ρ β w ok a x) : ∃ y, (Instr.loadAt t x).run C.P w = .ok y w ∧ RepSV C ρ β w ok v y := by
  cases a with
  | bptr m p t' =>
    simp only [loadV] at h
    split at h
    · rename_i ht
      subst ht
      obtain ⟨off, h1, rfl⟩ := hx
      cases hm : ob m with
      | none => simp [hm] at h
      | some o =>
        have R := hob m o hm
        cases o with
        | box tb u =>
          simp only [hm] at h
          obtain ⟨rfl, hin, cs, E, hh, hr⟩ := R
          cases hp : proj C u (β.ty m) p with
          | none => simp [hp] at h
          | some q =>
            obtain ⟨y, t2⟩ := q
            simp only [hp] at h
            split at h
            · rename_i ht2
              subst ht2
              simp only [Option.some.injEq] at h
              subst h
              obtain ⟨off', c1, g1, g2, g3⟩ := proj_ok H p hp hr
              rw [h1] at g1
              simp only [Option.some.injEq, Prod.mk.injEq] at g1
              obtain ⟨rfl, _⟩ := g1
              have hin' := offP_inTab H p hin h1
              have := g2.range (heap_range hh)
              rw [Nat.zero_add] at this
              exact ⟨_, load_run H hin' (RepSc.repC_len H hin' g3) this, g3.toV⟩
            · simp at h
        | fbox tb c =>
          simp only [hm] at h
          obtain ⟨rfl, hin, hb, cs, hc, hr⟩ := R
          cases hp : projD C c (β.ty m) p with
          | none => simp [hp] at h
          | some q =>
            obtain ⟨e, t2⟩ := q
            simp only [hp] at h
            split at h
            · rename_i ht2
              subst ht2
              simp only [Option.some.injEq] at h
              subst h
              obtain ⟨off', c1, g1, g2, g3⟩ := projD_ok H p hp hc
              rw [h1] at g1
              simp only [Option.some.injEq, Prod.mk.injEq] at g1
              obtain ⟨rfl, _⟩ := g1
              have hin' := offP_inTab H p hin h1
              have := g2.range hr
              rw [Nat.zero_add] at this
              exact ⟨_, load_run H hin' (by rw [RepC.len H g3, kd_size H hin']) this, _, g3, rfl⟩
            · simp at h
        | arr _ _ _ => simp [hm] at h
        | farr _ _ _ => simp [hm] at h
        | narr _ _ _ _ _ _ => simp [hm] at h
    · simp at h
  | eptr m ver i p t' =>
    simp only [loadV] at h
    split at h
    · rename_i ht
      subst ht
      obtain ⟨off, b, l, c, h1, h2, h3, h4, rfl⟩ := hx
      cases hm : ob m with
      | none => simp [hm] at h
      | some o =>
        have R := hob m o hm
        have fin : ∀ (e : Nat) (c' : Ex) (ver' : Nat), ((∃ e ver', o = .arr e c' ver' ∧ ver = ver') ∨ (∃ e ver', o = .farr e c' ver' ∧ ver = ver')) → e = β.ty m → ∀ q : Ex × Nat, projD C (.bin .idx c' i) e p = some q → q.2 = t → SV.dat (C.kd t) q.1 = v →
            ∃ y, (Instr.loadAt t (.pointer (some ⟨b, (i.ev C.G ρ).asI.toNat * C.tsz (β.ty m) + off, none⟩))).run C.P w = .ok y w ∧ RepSV C ρ β w ok v y := by
          rintro e c' ver' ho rfl ⟨x, t2⟩ hp rfl rfl
          obtain ⟨c1, ll, cs, c0, _, _, _, _, k1, k2, _, _, _, hin⟩ := eptr_cells H (e := c') R ho h1 h2 h3 h4 hp
          have hin' := offP_inTab H p hin h1
          exact ⟨_, load_run H hin' (by rw [RepC.len H k1, kd_size H hin']) k2, _, k1, rfl⟩
        cases o with
        | arr e' c' ver' =>
          simp only [hm] at h
          cases hp : projD C (.bin .idx c' i) e' p with
          | none => simp [hp] at h
          | some q =>
            simp only [hp] at h
            split at h
            · rename_i hc
              simp only [Option.some.injEq] at h
              exact fin e' c' ver' (.inl ⟨_, _, rfl, hc.2⟩) R.1.symm q hp hc.1 h
            · simp at h
        | farr e' c' ver' =>
          simp only [hm] at h
          cases hp : projD C (.bin .idx c' i) e' p with
          | none => simp [hp] at h
          | some q =>
            simp only [hp] at h
            split at h
            · rename_i hc
              simp only [Option.some.injEq] at h
              exact fin e' c' ver' (.inr ⟨_, _, rfl, hc.2⟩) R.1.symm q hp hc.1 h
            · simp at h
        | box _ _ => simp [hm] at h
        | fbox _ _ => simp [hm] at h
        | narr e f c' ver' rv hole =>
          cases hole with
          | some y => simp [hm] at h
          | none =>
            simp only [hm] at h
            split at h
            · rename_i hc
              obtain ⟨rfl, rfl⟩ := hc
              cases hfs : C.fields e with
              | none => simp [hfs] at h
              | some fs =>
                simp only [hfs] at h
                split at h
                · rename_i hft
                  cases hk : C.kd t <;> simp only [hk, reduceCtorEq] at h
                  rename_i x
                  simp only [Option.some.injEq] at h
                  subst h
                  obtain ⟨rfl, hin, ll, cs, rows, hcc, hmx, hown, hr1, hr2, hN, _⟩ := R
                  have hin' := offP_inTab H [f] hin h1
                  obtain ⟨a', c'', hs⟩ := ownsRow_slice hown
                  rw [h2] at hs
                  simp only [Value.slice.injEq] at hs
                  obtain ⟨rfl, rfl, rfl⟩ := hs
                  have hb' : (β.vl m ver).ownBlock = some b := by rw [h2]; rfl
                  have hjl : (i.ev C.G ρ).asI.toNat < ll.length := by omega
                  have hrow : rows[(i.ev C.G ρ).asI.toNat]? = some (rows[(i.ev C.G ρ).asI.toNat]'(by omega)) := Array.getElem?_eq_getElem (by omega)
                  obtain ⟨fs', tf, x', ds, pre, h', post, y, g1, g2, g3, g4, g5, g6, g7, g8, g9, ⟨a0, n0, c0, g10⟩, g11, g12⟩ := hN _ _ _ (List.getElem?_eq_getElem hjl) hrow
                  rw [hfs] at g1
                  simp only [Option.some.injEq] at g1
                  subst g1
                  rw [hft] at g2
                  simp only [Option.some.injEq] at g2
                  subst g2
                  have hoff : off = pre.length := by
                    simp only [offP, hfs, hft, Option.some.injEq, Prod.mk.injEq] at h1
                    obtain ⟨e1, e2, _, _, _, e4, _⟩ := fields_fact H hfs
                    rw [RepF.len H g8 (fun t' ht' => offs_in e4 t' (List.mem_of_mem_take ht'))]
                    omega
                  have hpart : Part cs ((i.ev C.G ρ).asI.toNat * C.tsz (β.ty m) + off) [h'] := by
                    refine ⟨cs.take ((i.ev C.G ρ).asI.toNat * C.tsz (β.ty m)) ++ pre, post ++ cs.drop ((i.ev C.G ρ).asI.toNat * C.tsz (β.ty m) + C.tsz (β.ty m)), ?_, ?_⟩
                    · have e1 := (List.take_append_drop ((i.ev C.G ρ).asI.toNat * C.tsz (β.ty m)) cs).symm
                      have e2 := (List.take_append_drop (C.tsz (β.ty m)) (cs.drop ((i.ev C.G ρ).asI.toNat * C.tsz (β.ty m)))).symm
                      rw [g7, List.drop_drop] at e2
                      rw [e2] at e1
                      simpa [List.append_assoc] using e1
                    · have hle : (i.ev C.G ρ).asI.toNat * C.tsz (β.ty m) ≤ cs.length := by
                        rw [hown.1]
                        exact Nat.mul_le_mul_right _ (by omega)
                      rw [List.length_append, List.length_take, hoff]
                      omega
                  have hrng := hpart.range (ownsRow_range hown hb')
                  rw [Nat.zero_add] at hrng
                  refine ⟨_, load_run H hin' (cs := [h']) ?_ hrng, rows, hr1, h3, ?_⟩
                  · have := kd_size H hin'
                    rw [hk] at this
                    exact this
                  · rw [hk, hrow, g11]
                    rfl
                · simp at h
            · simp at h
    · simp at h
  | dat k e =>
    cases k <;> try (simp [loadV] at h; done)
    rename_i t'
    cases e <;> try (simp [loadV] at h; done)
    rename_i u e
    cases u <;> try (simp [loadV] at h; done)
    simp only [loadV] at h
    split at h
    · rename_i ht
      subst ht
      simp only [Option.some.injEq] at h
      subst h
      obtain ⟨cs, h1, rfl⟩ := hx
      cases h1 with
      | ptr hb hd hr =>
        have hin := inTab_rep hd
        exact ⟨_, load_run H hin (by rw [RepC.len H hd, kd_size H hin]) hr, _, hd, rfl⟩
    · simp at h
  | tptr e i l =>
    simp only [loadV] at h
    split at h
    · rename_i ht
      subst ht
      simp only [Option.some.injEq] at h
      subst h
      obtain ⟨b, cs, rfl, hb, hr, hl, hin, hz, hrow, h0, h1⟩ := hx
      have hlen := RepSVs.len hl
      obtain ⟨u, hu⟩ : ∃ u, cs[(i.ev C.G ρ).asI.toNat]? = some u := ⟨cs[(i.ev C.G ρ).asI.toNat]'(by omega), List.getElem?_eq_getElem _⟩
      have hr1 : w.rangeAt b (i.ev C.G ρ).asI.toNat [u] := fun j v hv => by
        cases j with
        | zero =>
          simp only [List.getElem?_cons_zero, Option.some.injEq] at hv
          subst hv
          have := hr _ _ hu
          rw [Nat.zero_add] at this
          rw [Nat.add_zero]
          exact this
        | succ j => simp at hv
      refine ⟨_, load_run H hin (cs := [u]) (by simp [hz]) hr1, cs, hl, h0, ?_⟩
      rw [hu]
      simp [wrap, hrow]
    · simp at h
  | _ => simp [loadV] at h

theorem slice_at {a : Option Addr} {b o : Nat} (h : a = some ⟨b, o, none⟩) (n : Nat) : a.map (·.add n) = some ⟨b, o + n, none⟩ := by rw [h]; simp [Addr.add_mid]

theorem idx_run (H : COK C) {t e b o l c : Nat} {i : Int} (hk : C.kd t = .slice e) (h0 : 0 ≤ i) (h1 : i < l) :
    (Instr.indexAt t (.slice (some ⟨b, o, none⟩) l c) (.int .i64 i)).run C.P w = .ok (.pointer (some ⟨b, o + i.toNat * C.tsz e, none⟩)) w := by
  obtain ⟨hu, he, _⟩ := slice_fact H hk
  simp [Instr.indexAt, asIntOf, run_underlying hu, h0, h1, size_run (w := w) H he, Addr.add_mid]

theorem idxAddr_ok (H : COK C) (hob : ∀ m o, ob m = some o → RepOb C w0 ρ β w ok m o) {t : Nat} {a v : SV} {i : Ex} {l : List Ex} {x : Value} {n : Int} (h : idxAddr C ob t a i = some (l, v)) (hx : RepSV C ρ β w ok a x) (hi : i.ev C.G ρ = .int n) (hl : allT C.G ρ l) :
    ∃ y, (Instr.indexAt t x (.int .i64 n)).run C.P w = .ok y w ∧ RepSV C ρ β w ok v y := by
  cases a with
  | dat k e0 =>
    cases k <;> try (simp [idxAddr] at h; done)
    · rename_i e
      simp only [idxAddr] at h
      split at h
      · rename_i hk
        simp only [Option.some.injEq, Prod.mk.injEq] at h
        obtain ⟨rfl, rfl⟩ := h
        obtain ⟨ll, a', c', h1, rfl, h2, h3⟩ := RepV.slice hx
        have := hl _ (List.mem_singleton.2 rfl)
        simp only [Ex.ev, U1.ev, U2.ev, hi, h1, D.asL, D.asI, D.asB, decide_eq_true_eq] at this
        obtain ⟨b, o, cs, rfl, hb, hL, hr, _, _⟩ := h3 (fun e => by rw [e] at this; simp at this; omega)
        obtain ⟨_, he, _⟩ := slice_fact H hk
        obtain ⟨c0, k1, k2⟩ := hL.at_ H (i := n.toNat) (by omega)
        rw [kd_size H he] at k1
        refine ⟨_, idx_run H hk this.1 this.2, ?_⟩
        simp only [RepSV, Ex.ev, U1.ev, U2.ev, h1, hi, D.asL, D.asI]
        exact ⟨_, .ptr hb k2 (k1.range hr), rfl⟩
      · simp at h
    · rename_i ta
      cases e0 <;> try (simp [idxAddr] at h; done)
      rename_i u c
      cases u <;> try (simp [idxAddr] at h; done)
      simp only [idxAddr] at h
      split at h
      · rename_i hk
        obtain ⟨rfl, nn, e, hf⟩ := arrk_fact hk
        simp only [hf] at h
        split at h
        · rename_i h2
          simp only [Option.some.injEq, Prod.mk.injEq] at h
          obtain ⟨rfl, rfl⟩ := h
          obtain ⟨hu, _, he, _, _⟩ := arr_fact H hf
          have := hl _ (List.mem_singleton.2 rfl)
          simp only [Ex.ev, U2.ev, hi, D.asI, D.asB, decide_eq_true_eq] at this
          rcases RepV.ptr hx with ⟨hd0, _⟩ | ⟨d', b, o, cs, hd0, rfl, hb, hd, hr⟩
          · simp [Ex.ev, U1.ev] at hd0
          · simp only [Ex.ev, U1.ev, D.ptr.injEq] at hd0
            subst hd0
            rw [hk] at hd
            generalize hc : c.ev C.G ρ = dd at hd
            cases hd with
            | arr hf' hn hL =>
              rw [hf] at hf'
              simp only [Option.some.injEq, Prod.mk.injEq] at hf'
              obtain ⟨rfl, rfl⟩ := hf'
              rename_i ds
              obtain ⟨c0, k1, k2⟩ := hL.at_ H (i := n.toNat) (by omega)
              rw [kd_size H he] at k1
              have htiny : ¬ nn ≤ 1 := by omega
              refine ⟨.pointer (some ⟨b, o + n.toNat * C.tsz e, none⟩), ?_, ?_⟩
              · simp [Instr.indexAt, asIntOf, run_underlying hu, this.1, this.2, size_run (w := w) H he, Addr.add_mid, wrap, K.isRow, Instr.sureAddr, htiny]
              · simp only [RepSV, Ex.ev, U1.ev, U2.ev, hc, hi, D.asA, D.asI]
                exact ⟨_, .ptr hb k2 (k1.range hr), rfl⟩
        · simp at h
      · simp at h
  | sli m ver e =>
    simp only [idxAddr] at h
    split at h
    · rename_i hk
      obtain ⟨rfl, hsl⟩ := hx
      cases hm : ob m with
      | none => simp [hm] at h
      | some o =>
        have R := hob m o hm
        obtain ⟨_, he, _⟩ := slice_fact H hk
        cases o with
        | arr e' c ver' =>
          simp only [hm] at h
          split at h
          · rename_i hv
            obtain ⟨rfl, rfl⟩ := hv
            simp only [Option.some.injEq, Prod.mk.injEq] at h
            obtain ⟨rfl, rfl⟩ := h
            obtain ⟨hty, _, ll, cs, hcc, hL, hmx, hown⟩ := R
            have := hl _ (List.mem_singleton.2 rfl)
            simp only [Ex.ev, U1.ev, U2.ev, hi, hcc, D.asL, D.asI, D.asB, decide_eq_true_eq] at this
            obtain ⟨b, c', hv, _, _, _⟩ := ownsRow_form hown (by omega)
            rw [hv]
            refine ⟨_, idx_run H hk this.1 this.2, 0, b, ll.length, c', by simp [offP, hty], hv, by rw [hi]; exact this.1, by rw [hi]; exact this.2, ?_⟩
            simp only [hi, D.asI, hty, Nat.add_zero, Nat.zero_add]
          · simp at h
        | farr e' c ver' =>
          simp only [hm] at h
          split at h
          · rename_i hv
            obtain ⟨rfl, rfl⟩ := hv
            simp only [Option.some.injEq, Prod.mk.injEq] at h
            obtain ⟨rfl, rfl⟩ := h
            obtain ⟨hty, _, hrep, _, h00⟩ := R
            obtain ⟨ll, a', c', h1, h2, h2', h3⟩ := RepV.slice hrep
            have := hl _ (List.mem_singleton.2 rfl)
            simp only [Ex.ev, U1.ev, U2.ev, hi, h1, D.asL, D.asI, D.asB, decide_eq_true_eq] at this
            obtain ⟨b, o, cs, rfl, hb, hL, hr, _, _⟩ := h3 (fun e => by rw [e] at this; simp at this; omega)
            obtain rfl := h00 b o _ _ h2
            rw [h2]
            refine ⟨_, idx_run H hk this.1 this.2, 0, b, ll.length, c', by simp [offP, hty], h2, by rw [hi]; exact this.1, by rw [hi]; exact this.2, ?_⟩
            simp only [hi, D.asI, hty, Nat.add_zero, Nat.zero_add]
          · simp at h
        | box _ _ => simp [hm] at h
        | fbox _ _ => simp [hm] at h
        | narr e' f c ver' rv hole =>
          simp only [hm] at h
          split at h
          · rename_i hv
            obtain ⟨rfl, rfl⟩ := hv
            simp only [Option.some.injEq, Prod.mk.injEq] at h
            obtain ⟨rfl, rfl⟩ := h
            obtain ⟨hty, _, ll, cs, rows, hcc, hmx, hown, _⟩ := R
            have := hl _ (List.mem_singleton.2 rfl)
            simp only [Ex.ev, U1.ev, U2.ev, hi, hcc, D.asL, D.asI, D.asB, decide_eq_true_eq] at this
            obtain ⟨b, c', hv, _, _, _⟩ := ownsRow_form hown (by omega)
            rw [hv]
            refine ⟨_, idx_run H hk this.1 this.2, 0, b, ll.length, c', by simp [offP, hty], hv, by rw [hi]; exact this.1, by rw [hi]; exact this.2, ?_⟩
            simp only [hi, D.asI, hty, Nat.add_zero, Nat.zero_add]
          · simp at h
    · simp at h
  | tab e l' =>
    simp only [idxAddr] at h
    split at h
    · rename_i hk
      simp only [Option.some.injEq, Prod.mk.injEq] at h
      obtain ⟨rfl, rfl⟩ := h
      obtain ⟨b, cap, cs, rfl, hb, hr, hL, hin, hz, hrow, _⟩ := hx
      have := hl _ (List.mem_singleton.2 rfl)
      simp only [Ex.ev, U2.ev, hi, D.asI, D.asB, decide_eq_true_eq] at this
      refine ⟨_, idx_run H hk this.1 this.2, b, cs, ?_, hb, hr, hL, hin, hz, hrow, by rw [hi]; exact this.1, by rw [hi]; exact this.2⟩
      rw [hi, hz]
      simp [D.asI]
    · simp at h
  | nils e =>
    simp only [idxAddr] at h
    split at h
    · simp only [Option.some.injEq, Prod.mk.injEq] at h
      obtain ⟨rfl, rfl⟩ := h
      have := hl _ (List.mem_singleton.2 rfl)
      simp [Ex.ev, D.asB] at this
    · simp at h
  | _ => simp [idxAddr] at h

theorem lenOf_ok (H : COK C) (hob : ∀ m o, ob m = some o → RepOb C w0 ρ β w ok m o) {a : SV} {e : Ex} {x : Value} (h : lenOf C ob a = some e) (hx : RepSV C ρ β w ok a x) :
    ∃ n : Nat, e.ev C.G ρ = .int n ∧ n ≤ 140737488355328 ∧ ∃ q c, x = .slice q n c := by
  unfold lenOf at h
  split at h
  · simp only [Option.some.injEq] at h
    subst h
    obtain ⟨ll, a', c', h1, rfl, h2, h3⟩ := RepV.slice hx
    exact ⟨ll.length, by simp only [Ex.ev, U1.ev, h1, D.asL], h2, _, _, rfl⟩
  · simp only [Option.some.injEq] at h
    subst h
    exact ⟨0, rfl, by omega, _, _, hx⟩
  · simp only [Option.some.injEq] at h
    subst h
    exact ⟨0, rfl, by omega, _, _, hx⟩
  · simp only [Option.some.injEq] at h
    subst h
    obtain ⟨b, cap, cs, h1, _, _, _, _, _, _, h2⟩ := hx
    exact ⟨_, rfl, by omega, _, _, h1⟩
  · rename_i m ver e'
    obtain ⟨rfl, hsl⟩ := hx
    split at h
    · rename_i c ver' hm
      have R := hob m _ hm
      split at h
      · rename_i hv
        subst hv
        simp only [Option.some.injEq] at h
        subst h
        obtain ⟨_, _, ll, cs, hcc, hL, hmx, hown⟩ := R
        obtain ⟨a', c', hv⟩ := ownsRow_slice hown
        exact ⟨ll.length, by simp only [Ex.ev, U1.ev, hcc, D.asL], by unfold maxN at hmx; omega, _, _, hv⟩
      · simp at h
    · rename_i c ver' hm
      have R := hob m _ hm
      split at h
      · rename_i hv
        subst hv
        simp only [Option.some.injEq] at h
        subst h
        obtain ⟨_, _, hrep, _⟩ := R
        obtain ⟨ll, a', c', h1, h2, h3, _⟩ := RepV.slice hrep
        exact ⟨ll.length, by simp only [Ex.ev, U1.ev, h1, D.asL], h3, _, _, h2⟩
      · simp at h
    · rename_i c ver' _ _ hm
      have R := hob m _ hm
      split at h
      · rename_i hv
        subst hv
        simp only [Option.some.injEq] at h
        subst h
        obtain ⟨_, _, ll, cs, rows, hcc, hmx, hown, _⟩ := R
        obtain ⟨a', c', hv⟩ := ownsRow_slice hown
        exact ⟨ll.length, by simp only [Ex.ev, U1.ev, hcc, D.asL], by unfold maxN at hmx; omega, _, _, hv⟩
      · simp at h
    · simp at h
  · simp at h
end
end Sy
