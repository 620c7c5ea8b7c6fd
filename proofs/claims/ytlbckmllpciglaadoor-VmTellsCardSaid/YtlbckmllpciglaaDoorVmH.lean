/- What the functions on values answer. -/
import Derived.Test.YtlbckmllpciglaaDoorVmG
set_option linter.unusedVariables false
set_option linter.unusedSimpArgs false
set_option linter.all false
namespace Go.Proofs.YtlbckmllpciglaaDoor
open Go Sy

theorem s_vInt (n : Int) : R 62 [.int n] = some [(vInt n).d] := by rw [r62, e62]; simp [vInt, Val.d]
theorem s_vBool (b : Bool) : R 63 [.bool b] = some [(vBool b).d] := by rw [r63, e63]; cases b <;> simp [vBool, Val.d]
theorem s_vText (s : Bs) : R 64 [.str s] = some [(vText s).d] := by rw [r64, e64]; simp [vText, Val.d]

def cmpI (a b : Int) : Int := if a < b then -1 else if b < a then 1 else 0
theorem s_cmpI (a b : Int) : R 83 [.int a, .int b] = some [.int (cmpI a b)] := by
  have h : ∀ a, R 93 [.int a] = some [.bool false] := fun a => by rw [r93, e93]; simp
  rw [r83, e83]
  unfold cmpI
  by_cases h1 : a < b
  · simp [h, h1]
  · by_cases h2 : b < a <;> simp [h, h1, h2]
theorem s_cmpS (a b : Bs) : R 84 [.str a, .str b] = some [.int (Lib.compareBytes a b)] := by
  rw [r84, e84, r94]
  simp [cmpF]
def firstNZ : List Int → Int
  | [] => 0
  | x :: l => if x = 0 then firstNZ l else x
theorem s_or3 (a b c : Int) : R 82 [.list [.int a, .int b, .int c]] = some [.int (firstNZ [a, b, c])] := by
  rw [r82, e82]
  unfold firstNZ firstNZ firstNZ firstNZ
  rw [loopL_eq]
  by_cases h1 : a = 0
  · simp [h1, wrap64]
    rw [loopL_eq]
    by_cases h2 : b = 0
    · simp [h2, wrap64]
      rw [loopL_eq]
      by_cases h3 : c = 0
      · simp [h3, wrap64]
        rw [loopL_eq]
        simp
      · simp [h3]
    · simp [h2]
  · simp [h1]
def cmpVal (a b : Val) : Int := firstNZ [cmpI a.kind b.kind, cmpI a.n b.n, Lib.compareBytes a.s b.s]
theorem s_cmpVal (a b : Val) : R 67 [a.d, b.d] = some [.int (cmpVal a b)] := by
  rw [r67, e67]
  simp [Val.d, s_cmpI, s_cmpS, s_or3, cmpVal]

def numOp (op a b : Int) : Val :=
  if op = 8 then vInt (IntKind.wrap .i64 (a + b)) else if op = 9 then vInt (IntKind.wrap .i64 (a - b)) else if op = 10 then vInt (IntKind.wrap .i64 (a * b)) else
  if op = 11 then vInt (if b = 0 then 0 else IntKind.wrap .i64 (a.tdiv b)) else vInt (if b = 0 then 0 else a.tmod b)
theorem s_numOp (op a b : Int) : R 68 [.int op, .int a, .int b] = some [(numOp op a b).d] := by
  have h : R 85 [.int a, .int b] = some [.int (if b = 0 then 0 else IntKind.wrap .i64 (a.tdiv b)), .int (if b = 0 then 0 else a.tmod b)] := by
    rw [r85, e85]
    by_cases hb : b = 0 <;> simp [hb]
  rw [r68, e68]
  unfold numOp
  by_cases h1 : op = 8
  · subst h1; simp [h, s_vInt]
  by_cases h2 : op = 9
  · subst h2; simp [h, s_vInt]
  by_cases h3 : op = 10
  · subst h3; simp [h, s_vInt]
  by_cases h4 : op = 11
  · subst h4; simp [h, s_vInt]
  simp [h, h1, h2, h3, h4, s_vInt]

/-! ### One row -/
def gv (l : List Val) (i : Nat) : Val := l.getD i default
def srcVal (x : Ins) (t : Delta) : Val := if x.op = 0 then vInt x.n else if x.op = 2 then vBool (x.n == 1) else if x.op = 1 then vText x.s else if x.op = 3 then gv t.row x.n.toNat else vInt t.time
def oneVal (x : Ins) (a : Val) : Val := if x.op = 6 then vBool (a.n == 0) else if x.op = 7 then vInt (IntKind.wrap .i64 (0 - a.n)) else vInt a.s.length
def cat2 (a b : Bs) : Bs := (a ++ b).take 200
def twoVal (x : Ins) (a b : Val) : Val :=
  if x.op = 13 then vBool (a == b) else if x.op = 14 then vBool (!(a == b)) else if x.op = 15 then vBool (decide (cmpVal a b < 0)) else if x.op = 16 then vBool (decide (cmpVal a b ≤ 0)) else
  if x.op = 17 then vBool ((a.n == 1) && (b.n == 1)) else if x.op = 18 then vBool ((a.n == 1) || (b.n == 1)) else if x.op = 19 then vText (cat2 a.s b.s) else numOp x.op a.n b.n
def triVal (a b c : Val) : Val := if a.n = 1 then b else c

theorem at_val {l : List Val} {i : Nat} (h : i < l.length) : at_ (l.map Val.d) i = (gv l i).d := by
  rw [at_map _ _ _ h]
  unfold gv
  rw [List.getD_eq_getElem?_getD, List.getElem?_eq_getElem h]
  rfl

theorem c_src (x : Ins) (l : List Delta) (regs : D) (i : Nat) (hi : i < l.length) (hx : x.op = 3 → 0 ≤ x.n ∧ x.n < (l[i]).row.length) :
    R 61 [.int i, .ptr x.d, .ptr (.ptr (.agg [deltasD l, regs]))] = some [(srcVal x l[i]).d] := by
  rw [r61, e61]
  have hm := at_map Delta.d l i hi
  obtain ⟨op, to, a, b, c, n, s⟩ := x
  simp only [Ins.d] at *
  unfold srcVal
  by_cases h0 : op = 0
  · subst h0; simp [s_vInt]
  by_cases h2 : op = 2
  · subst h2; simp [s_vBool]
  by_cases h1 : op = 1
  · subst h1; simp [s_vText]
  by_cases h3 : op = 3
  · subst h3
    obtain ⟨g1, g2⟩ := hx rfl
    have hv := at_val (l := (l[i]).row) (i := n.toNat) (by omega)
    simp [hi, hm, Delta.d, g1, g2, hv]
  · simp [h0, h1, h2, h3, hi, hm, Delta.d, s_vInt]
theorem c_one (x : Ins) (l : List Val) (i : Nat) (hi : i < l.length) : R 65 [.int i, .ptr x.d, .ptr (rowD l)] = some [(oneVal x (gv l i)).d] := by
  rw [r65, e65]
  have hv := at_val hi
  obtain ⟨op, to, a, b, c, n, s⟩ := x
  simp only [Ins.d] at *
  generalize gv l i = v at hv ⊢
  unfold oneVal
  by_cases h0 : op = 6
  · subst h0; simp [hi, hv, Val.d, s_vBool]
  by_cases h1 : op = 7
  · subst h1; simp [hi, hv, Val.d, s_vInt]
  · simp [h0, h1, hi, hv, Val.d, s_vInt]
theorem c_two (x : Ins) (l m : List Val) (i : Nat) (hi : i < l.length) (hj : i < m.length) (hs : (gv l i).s.length + (gv m i).s.length ≤ 34359738368) : R 66 [.int i, .ptr x.d, .ptr (rowD l), .ptr (rowD m)] = some [(twoVal x (gv l i) (gv m i)).d] := by
  rw [r66, e66]
  have hv := at_val hi
  have hw := at_val hj
  have hx : at_ x.d.asA 0 = .int x.op := rfl
  generalize gv l i = v at hv hs ⊢
  generalize gv m i = w at hw hs ⊢
  have v1 : at_ v.d.asA 1 = .int v.n := rfl
  have v2 : at_ v.d.asA 2 = .str v.s := rfl
  have w1 : at_ w.d.asA 1 = .int w.n := rfl
  have w2 : at_ w.d.asA 2 = .str w.s := rfl
  unfold twoVal
  by_cases h13 : x.op = 13
  · simp [hx, h13, hi, hj, hv, hw, s_vBool]
  by_cases h14 : x.op = 14
  · simp [hx, h14, hi, hj, hv, hw, s_vBool]
  by_cases h15 : x.op = 15
  · simp [hx, h15, hi, hj, hv, hw, s_vBool, s_cmpVal]
  by_cases h16 : x.op = 16
  · simp [hx, h16, hi, hj, hv, hw, s_vBool, s_cmpVal]
  by_cases h17 : x.op = 17
  · simp [hx, h17, hi, hj, hv, hw, v1, w1, s_vBool]
  by_cases h18 : x.op = 18
  · simp [hx, h18, hi, hj, hv, hw, v1, w1, s_vBool]
  by_cases h19 : x.op = 19
  · have hf : (v.s.length : Int) + (w.s.length : Int) ≤ 34359738368 := by omega
    have hc : ∀ b : Bs, ((b.take (if (200 : Int) < (b.length : Int) then (200 : Int) else (b.length : Int)).toNat).drop (0 : Int).toNat) = b.take 200 := by
      intro b
      split
      · simp
      · have : b.length ≤ 200 := by omega
        simp [List.take_of_length_le this]
    have hb : ∀ b : Bs, (0 : Int) ≤ 0 ∧ (0 : Int) ≤ (if (200 : Int) < (b.length : Int) then (200 : Int) else (b.length : Int)) ∧ (if (200 : Int) < (b.length : Int) then (200 : Int) else (b.length : Int)) ≤ (b.length : Int) := by
      intro b
      split <;> omega
    have hcc := hc (v.s ++ w.s)
    have hbb := hb (v.s ++ w.s)
    simp only [hx, h13, h14, h15, h16, h17, h18, h19, hv, hw, v2, w2, asP_ptr', isP_ptr', rowD_asL, asI_int', asS_str', Int.toNat_natCast, List.length_map, asB_fits, if_true]
    rw [hcc]
    have hb2 : (0 ≤ if (200 : Int) < (v.s.length : Int) + (w.s.length : Int) then (200 : Int) else (v.s.length : Int) + (w.s.length : Int)) ∧ (if (200 : Int) < (v.s.length : Int) + (w.s.length : Int) then (200 : Int) else (v.s.length : Int) + (w.s.length : Int)) ≤ (v.s.length : Int) + (w.s.length : Int) := by split <;> omega
    simp [hi, hj, hf, s_vText, cat2]
    rw [if_pos hb2]
    rfl
  · simp [hx, h13, h14, h15, h16, h17, h18, h19, hi, hj, hv, hw, v1, w1, s_numOp]
theorem c_tri (l m k : List Val) (i : Nat) (hi : i < l.length) (hj : i < m.length) (hk : i < k.length) : R 69 [.int i, .ptr (rowD l), .ptr (rowD m), .ptr (rowD k)] = some [(triVal (gv l i) (gv m i) (gv k i)).d] := by
  rw [r69, e69]
  have hv := at_val hi
  have hw := at_val hj
  have hu := at_val hk
  have v1 : at_ (gv l i).d.asA 1 = .int (gv l i).n := rfl
  unfold triVal
  by_cases h : (gv l i).n = 1 <;> simp [hi, hj, hk, hv, hw, hu, v1, h]
end Go.Proofs.YtlbckmllpciglaaDoor
