/- The framework, part 0: SyData, SyRun, SyRep, SyDec -/
import Derived.Calls
import Derived.Deep.MidRow
import Derived.Below
set_option linter.unusedVariables false
set_option linter.unusedSimpArgs false
set_option linter.all false

/- The data, the expressions and the small language into which the program's functions are turned, with their meaning: no theorem about the program stands here. -/
namespace Sy
open Go

/-- Plain data: what a Go value of the program's types says, without memory. -/
inductive D where
  | int (n : Int)
  | bool (b : Bool)
  | str (s : List UInt8)
  | list (l : List D)
  | agg (l : List D)
  | ptr (d : D)
  | nil
  | fn (f : Nat) (first cap : List D)
  deriving Inhabited

def D.asI : D → Int
  | .int n => n
  | _ => 0
def D.asB : D → Bool
  | .bool b => b
  | _ => false
def D.asS : D → List UInt8
  | .str s => s
  | _ => []
def D.asL : D → List D
  | .list l => l
  | _ => []
def D.asA : D → List D
  | .agg l => l
  | _ => []
def D.asP : D → D
  | .ptr d => d
  | _ => .nil
def D.isP : D → Bool
  | .ptr _ => true
  | _ => false

mutual
def D.beq : D → D → Bool
  | .int a, .int b => a == b
  | .bool a, .bool b => a == b
  | .str a, .str b => a == b
  | .agg a, .agg b => D.beqs a b
  | _, _ => false
def D.beqs : List D → List D → Bool
  | [], [] => true
  | a :: l, b :: m => D.beq a b && D.beqs l m
  | _, _ => false
end

/-- The i-th of a list; of a place outside: D.nil. -/
def at_ (l : List D) (i : Nat) : D := l.getD i .nil

/-- Is the one list of bytes less than the other? -/
def strLt : List UInt8 → List UInt8 → Bool
  | _, [] => false
  | [], _ :: _ => true
  | a :: x, b :: y => a < b || (a == b && strLt x y)

inductive U1 where
  | not | neg (k : IntKind) | len | slen | fld (i : Nat) | deref | mkptr | mkagg | conv (k : IntKind) | isptr
  deriving DecidableEq
inductive U2 where
  | add (k : IntKind) | sub (k : IntKind) | mul (k : IntKind) | quo (k : IntKind) | rem (k : IntKind) | shl (k : IntKind) | shr (k : IntKind)
  | ieq | ilt | ile | beq | seq | slt | cat | deq | idx | sidx | cons | snoc | app | and | or | imax | imin | take | drop | stake | sdrop
  | setfld (i : Nat) | rep | inb | fits (n : Nat) | ble (n : Nat) | aidx
  deriving DecidableEq
inductive U3 where
  | ite | set | cut | scut
  deriving DecidableEq

inductive Ex where
  | var (i : Nat)
  | int (n : Int)
  | bool (b : Bool)
  | str (s : List UInt8)
  | lnil
  | nil
  | glob (g : Nat)
  | un (o : U1) (a : Ex)
  | bin (o : U2) (a b : Ex)
  | tri (o : U3) (a b c : Ex)
  | fn (f : Nat) (first cap : Ex)
  deriving DecidableEq

def U1.ev : U1 → D → D
  | .not, a => .bool !a.asB
  | .neg k, a => .int (k.wrap (0 - a.asI))
  | .len, a => .int a.asL.length
  | .slen, a => .int a.asS.length
  | .fld i, a => at_ a.asA i
  | .deref, a => a.asP
  | .mkptr, a => .ptr a
  | .mkagg, a => .agg a.asL
  | .conv k, a => .int (k.wrap a.asI)
  | .isptr, a => .bool a.isP
def U2.ev : U2 → D → D → D
  | .add k, a, b => .int (k.wrap (a.asI + b.asI))
  | .sub k, a, b => .int (k.wrap (a.asI - b.asI))
  | .mul k, a, b => .int (k.wrap (a.asI * b.asI))
  | .quo k, a, b => .int (k.wrap (a.asI.tdiv b.asI))
  | .rem _, a, b => .int (a.asI.tmod b.asI)
  | .shl k, a, b => .int (k.wrap (a.asI * 2 ^ (Nat.min b.asI.toNat k.bits)))
  | .shr k, a, b => .int (a.asI.fdiv (2 ^ (Nat.min b.asI.toNat k.bits)))
  | .ieq, a, b => .bool (a.asI == b.asI)
  | .ilt, a, b => .bool (decide (a.asI < b.asI))
  | .ile, a, b => .bool (decide (a.asI ≤ b.asI))
  | .beq, a, b => .bool (a.asB == b.asB)
  | .seq, a, b => .bool (a.asS == b.asS)
  | .slt, a, b => .bool (strLt a.asS b.asS)
  | .cat, a, b => .str (a.asS ++ b.asS)
  | .deq, a, b => .bool (D.beq a b)
  | .idx, a, b => at_ a.asL b.asI.toNat
  | .aidx, a, b => at_ a.asA b.asI.toNat
  | .sidx, a, b => .int ((a.asS.getD b.asI.toNat 0).toNat : Nat)
  | .cons, a, b => .list (a :: b.asL)
  | .snoc, a, b => .list (a.asL ++ [b])
  | .app, a, b => .list (a.asL ++ b.asL)
  | .and, a, b => .bool (a.asB && b.asB)
  | .or, a, b => .bool (a.asB || b.asB)
  | .imax, a, b => .int (if b.asI > a.asI then b.asI else a.asI)
  | .imin, a, b => .int (if b.asI < a.asI then b.asI else a.asI)
  | .take, a, b => .list (a.asL.take b.asI.toNat)
  | .drop, a, b => .list (a.asL.drop b.asI.toNat)
  | .stake, a, b => .str (a.asS.take b.asI.toNat)
  | .sdrop, a, b => .str (a.asS.drop b.asI.toNat)
  | .setfld i, a, b => .agg (a.asA.set i b)
  | .rep, a, b => .list (List.replicate a.asI.toNat b)
  | .inb, a, b => .bool (decide (0 ≤ b.asI ∧ b.asI < a.asI))
  | .fits n, a, b => .bool (decide (a.asI + b.asI ≤ (n : Int)))
  | .ble n, a, b => .bool (decide (0 ≤ a.asI ∧ a.asI ≤ b.asI ∧ b.asI ≤ (n : Int)))
def U3.ev : U3 → D → D → D → D
  | .ite, c, a, b => if c.asB then a else b
  | .set, l, i, v => .list (l.asL.set i.asI.toNat v)
  | .cut, lo, hi, n => .bool (decide (0 ≤ lo.asI ∧ lo.asI ≤ hi.asI ∧ hi.asI ≤ n.asI))
  | .scut, _, _, _ => .nil

def Ex.ev (G : Nat → D) (ρ : List D) : Ex → D
  | .var i => at_ ρ i
  | .int n => .int n
  | .bool b => .bool b
  | .str s => .str s
  | .lnil => .list []
  | .nil => .nil
  | .glob g => .ptr (G g)
  | .un o a => o.ev (a.ev G ρ)
  | .bin o a b => o.ev (a.ev G ρ) (b.ev G ρ)
  | .tri o a b c => o.ev (a.ev G ρ) (b.ev G ρ) (c.ev G ρ)
  | .fn f a b => .fn f (a.ev G ρ).asL (b.ev G ρ).asL

def evs (G : Nat → D) (ρ : List D) : List Ex → List D
  | [] => []
  | e :: l => e.ev G ρ :: evs G ρ l

/-- A condition under which an operation runs: each expression has the value beside it. -/
abbrev PC := List (Ex × Bool)
def pcOK (G : Nat → D) (ρ : List D) : PC → Bool
  | [] => true
  | (e, b) :: l => ((e.ev G ρ).asB == b) && pcOK G ρ l

inductive IL where
  | chk (c : Ex) (k : IL)
  | lete (e : Ex) (k : IL)
  | call (pc : PC) (m f : Nat) (args : List Ex) (k : IL)
  | callv (pc : PC) (m : Nat) (fe : Ex) (args : List Ex) (k : IL)
  | ite (c : Ex) (a b : IL)
  | out (t : Nat) (vs : List Ex)
  | bindc (a : IL) (t m : Nat) (k : IL)
  | loop (es : List Ex) (b : IL)
  | both (a b : IL)

abbrev Out := Nat × List D
def padAt (l : List D) : Nat → Nat → List D
  | _, 0 => []
  | i, m + 1 => at_ l i :: padAt l (i + 1) m
/-- The first m of a list, filled up by D.nil. -/
def pad (m : Nat) (l : List D) : List D := padAt l 0 m

def iter (f : List D → Option Out) : Nat → List D → Option Out
  | 0, _ => none
  | n + 1, vs => (f vs).bind fun o => if o.1 = 0 then iter f n o.2 else some o

abbrev Fns := Nat → List D → Option (List D)
/-- A call of a function value. -/
def callD (Γ : Fns) (d : D) (args : List D) : Option (List D) :=
  match d with
  | .fn f first cap => Γ f (first ++ args ++ cap)
  | _ => none

open Classical in
/-- Both, where they agree. -/
noncomputable def bothO (x y : Option Out) : Option Out := if x = y then x else none
theorem bothO_some {x y : Option Out} {o : Out} : bothO x y = some o ↔ x = some o ∧ y = some o := by
  unfold bothO
  split
  · rename_i h; subst h; exact ⟨fun h => ⟨h, h⟩, fun h => h.1⟩
  · rename_i h; exact ⟨fun h => by simp at h, fun h2 => absurd (h2.1.trans h2.2.symm) h⟩
theorem bothO_self (x : Option Out) : bothO x x = x := by unfold bothO; rw [if_pos rfl]

noncomputable def run (G : Nat → D) (Γ : Fns) (n : Nat) : IL → List D → Option Out
  | .chk c k, ρ => if (c.ev G ρ).asB then run G Γ n k ρ else none
  | .lete e k, ρ => run G Γ n k (ρ ++ [e.ev G ρ])
  | .call pc m f args k, ρ =>
    if pcOK G ρ pc then (Γ f (evs G ρ args)).bind fun rs => run G Γ n k (ρ ++ pad m rs) else run G Γ n k (ρ ++ pad m [])
  | .callv pc m fe args k, ρ =>
    if pcOK G ρ pc then (callD Γ (fe.ev G ρ) (evs G ρ args)).bind fun rs => run G Γ n k (ρ ++ pad m rs) else run G Γ n k (ρ ++ pad m [])
  | .ite c a b, ρ => if (c.ev G ρ).asB then run G Γ n a ρ else run G Γ n b ρ
  | .out t vs, ρ => some (t, evs G ρ vs)
  | .bindc a t m k, ρ => (run G Γ n a ρ).bind fun o => if o.1 = t then run G Γ n k (ρ ++ pad m o.2) else some o
  | .loop es b, ρ => iter (fun vs => run G Γ n b (ρ ++ pad es.length vs)) n (evs G ρ es)
  | .both a b, ρ => bothO (run G Γ n a ρ) (run G Γ n b ρ)

/-- The outcome of a function's body: its results. -/
def outs (o : Out) : Option (List D) := if o.1 = 2 then some o.2 else none

/-- The functions, n calls deep. 'prim': those that are told by hand; 'T': the others' texts. -/
noncomputable def funs (G : Nat → D) (prim : Nat → Option (List D → Option (List D))) (T : Nat → Option IL) : Nat → Fns
  | 0, _, _ => none
  | n + 1, f, ds =>
    match prim f with
    | some g => g ds
    | none =>
      match T f with
      | some il => (run G (funs G prim T n) n il ds).bind outs
      | none => none
end Sy

/- The meaning of the small language without a bound on the rounds: where some number of rounds suffices, that number's answer. -/
namespace Sy
open Go

def Fns.le (A B : Fns) : Prop := ∀ f ds r, A f ds = some r → B f ds = some r
theorem Fns.le_refl (A : Fns) : Fns.le A A := fun _ _ _ h => h
theorem Fns.le_trans {A B C : Fns} (h : Fns.le A B) (k : Fns.le B C) : Fns.le A C := fun f ds r e => k f ds r (h f ds r e)

theorem iter_mono {f f' : List D → Option Out} (hf : ∀ vs o, f vs = some o → f' vs = some o) : ∀ {n n' : Nat}, n ≤ n' → ∀ {vs o}, iter f n vs = some o → iter f' n' vs = some o := by
  intro n
  induction n with
  | zero => intro n' _ vs o h; simp [iter] at h
  | succ n ih =>
    intro n' hn vs o h
    obtain ⟨m, rfl⟩ : ∃ m, n' = m + 1 := ⟨n' - 1, by omega⟩
    simp only [iter] at h ⊢
    cases hv : f vs with
    | none => simp [hv] at h
    | some x =>
      rw [hf vs x hv]
      simp only [hv, Option.bind_some] at h ⊢
      split
      · rename_i h0; rw [if_pos h0] at h; exact ih (by omega) h
      · rename_i h0; rw [if_neg h0] at h; exact h

theorem callD_mono {A B : Fns} (h : Fns.le A B) {d : D} {l : List D} {r : List D} (e : callD A d l = some r) : callD B d l = some r := by
  unfold callD at *
  split at e
  · exact h _ _ _ e
  · simp at e

theorem run_mono (G : Nat → D) {A B : Fns} (h : Fns.le A B) {n n' : Nat} (hn : n ≤ n') (il : IL) : ∀ ρ o, run G A n il ρ = some o → run G B n' il ρ = some o := by
  induction il with
  | chk c k ih => intro ρ o; simp only [run]; split; exact ih ρ o; exact id
  | lete e k ih => intro ρ o; simp only [run]; exact ih _ o
  | call pc m f args k ih =>
    intro ρ o; simp only [run]
    split
    · cases hv : A f (evs G ρ args) with
      | none => simp
      | some x => rw [h _ _ _ hv]; simp only [Option.bind_some]; exact ih _ o
    · exact ih _ o
  | callv pc m fe args k ih =>
    intro ρ o; simp only [run]
    split
    · cases hv : callD A (fe.ev G ρ) (evs G ρ args) with
      | none => simp
      | some x => rw [callD_mono h hv]; simp only [Option.bind_some]; exact ih _ o
    · exact ih _ o
  | ite c a b iha ihb => intro ρ o; simp only [run]; split; exact iha ρ o; exact ihb ρ o
  | out t vs => intro ρ o; simp only [run]; exact id
  | bindc a t m k iha ihk =>
    intro ρ o; simp only [run]
    cases hv : run G A n a ρ with
    | none => simp
    | some x =>
      rw [iha ρ x hv]; simp only [Option.bind_some]
      split
      · exact ihk _ o
      · exact id
  | loop es b ih => intro ρ o; simp only [run]; exact iter_mono (fun vs o => ih _ o) hn
  | both a b iha ihb => intro ρ o; simp only [run, bothO_some]; exact fun ⟨h1, h2⟩ => ⟨iha ρ o h1, ihb ρ o h2⟩

theorem funs_succ (G : Nat → D) (prim : Nat → Option (List D → Option (List D))) (T : Nat → Option IL) (n : Nat) : Fns.le (funs G prim T n) (funs G prim T (n + 1)) := by
  induction n with
  | zero => intro f ds r h; simp [funs] at h
  | succ n ih =>
    intro f ds r h
    rw [funs] at h ⊢
    cases hp : prim f with
    | some g => simpa [hp] using h
    | none =>
      simp only [hp] at h ⊢
      cases ht : T f with
      | none => simp [ht] at h
      | some il =>
        simp only [ht] at h ⊢
        cases hr : run G (funs G prim T n) n il ds with
        | none => simp [hr] at h
        | some o => rw [run_mono G ih (Nat.le_succ n) il ds o hr]; simpa [hr] using h
theorem funs_mono (G : Nat → D) (prim : Nat → Option (List D → Option (List D))) (T : Nat → Option IL) {n m : Nat} (h : n ≤ m) : Fns.le (funs G prim T n) (funs G prim T m) := by
  induction h with
  | refl => exact Fns.le_refl _
  | step _ ih => exact Fns.le_trans ih (funs_succ G prim T _)

section
variable (G : Nat → D) (prim : Nat → Option (List D → Option (List D))) (T : Nat → Option IL)
open Classical in
/-- What a function answers, with as many rounds as it takes. -/
noncomputable def Run : Fns := fun f ds => if h : ∃ r, ∃ n, funs G prim T n f ds = some r then some (Classical.choose h) else none
theorem Run_iff (f : Nat) (ds r : List D) : Run G prim T f ds = some r ↔ ∃ n, funs G prim T n f ds = some r := by
  unfold Run
  constructor
  · intro h
    split at h
    · rename_i hx
      have := Classical.choose_spec hx
      simp only [Option.some.injEq] at h
      rw [h] at this
      exact this
    · simp at h
  · rintro ⟨n, hn⟩
    have hx : ∃ r, ∃ n, funs G prim T n f ds = some r := ⟨r, n, hn⟩
    rw [dif_pos hx]
    obtain ⟨m, hm⟩ := Classical.choose_spec hx
    have h1 := funs_mono G prim T (Nat.le_max_left n m) _ _ _ hn
    have h2 := funs_mono G prim T (Nat.le_max_right n m) _ _ _ hm
    rw [h1] at h2
    simp only [Option.some.injEq] at h2
    rw [h2]
end

open Classical in
/-- A loop without a bound. -/
noncomputable def loopL (f : List D → Option Out) (vs : List D) : Option Out := if h : ∃ o, ∃ n, iter f n vs = some o then some (Classical.choose h) else none
theorem loopL_iff (f : List D → Option Out) (vs : List D) (o : Out) : loopL f vs = some o ↔ ∃ n, iter f n vs = some o := by
  unfold loopL
  constructor
  · intro h
    split at h
    · rename_i hx
      have := Classical.choose_spec hx
      simp only [Option.some.injEq] at h
      rw [h] at this
      exact this
    · simp at h
  · rintro ⟨n, hn⟩
    have hx : ∃ o, ∃ n, iter f n vs = some o := ⟨o, n, hn⟩
    rw [dif_pos hx]
    obtain ⟨m, hm⟩ := Classical.choose_spec hx
    have h1 := iter_mono (f' := f) (fun _ _ h => h) (Nat.le_max_left n m) hn
    have h2 := iter_mono (f' := f) (fun _ _ h => h) (Nat.le_max_right n m) hm
    rw [h1] at h2
    simp only [Option.some.injEq] at h2
    rw [h2]
/-- One round. -/
theorem loopL_eq (f : List D → Option Out) (vs : List D) : loopL f vs = (f vs).bind fun o => if o.1 = 0 then loopL f o.2 else some o := by
  apply Option.ext
  intro o
  rw [loopL_iff]
  constructor
  · rintro ⟨n, hn⟩
    cases n with
    | zero => simp [iter] at hn
    | succ n =>
      simp only [iter] at hn
      cases hv : f vs with
      | none => simp [hv] at hn
      | some x =>
        simp only [hv, Option.bind_some] at hn ⊢
        split
        · rename_i h0; rw [if_pos h0] at hn; exact (loopL_iff f _ o).2 ⟨n, hn⟩
        · rename_i h0; rw [if_neg h0] at hn; exact hn
  · intro h
    cases hv : f vs with
    | none => simp [hv] at h
    | some x =>
      simp only [hv, Option.bind_some] at h
      by_cases h0 : x.1 = 0
      · rw [if_pos h0] at h
        obtain ⟨n, hn⟩ := (loopL_iff f _ o).1 h
        exact ⟨n + 1, by simp only [iter, hv, Option.bind_some, if_pos h0]; exact hn⟩
      · rw [if_neg h0] at h
        exact ⟨1, by simp only [iter, hv, Option.bind_some, if_neg h0]; exact h⟩

/-- The meaning of a text, over the meaning of the functions that it calls. -/
noncomputable def den (G : Nat → D) (R : Fns) : IL → List D → Option Out
  | .chk c k, ρ => if (c.ev G ρ).asB then den G R k ρ else none
  | .lete e k, ρ => den G R k (ρ ++ [e.ev G ρ])
  | .call pc m f args k, ρ =>
    if pcOK G ρ pc then (R f (evs G ρ args)).bind fun rs => den G R k (ρ ++ pad m rs) else den G R k (ρ ++ pad m [])
  | .callv pc m fe args k, ρ =>
    if pcOK G ρ pc then (callD R (fe.ev G ρ) (evs G ρ args)).bind fun rs => den G R k (ρ ++ pad m rs) else den G R k (ρ ++ pad m [])
  | .ite c a b, ρ => if (c.ev G ρ).asB then den G R a ρ else den G R b ρ
  | .out t vs, ρ => some (t, evs G ρ vs)
  | .bindc a t m k, ρ => (den G R a ρ).bind fun o => if o.1 = t then den G R k (ρ ++ pad m o.2) else some o
  | .loop es b, ρ => loopL (fun vs => den G R b (ρ ++ pad es.length vs)) (evs G ρ es)
  | .both a b, ρ => bothO (den G R a ρ) (den G R b ρ)

theorem den_of_run (G : Nat → D) {A R : Fns} (h : Fns.le A R) {n : Nat} (il : IL) : ∀ ρ o, run G A n il ρ = some o → den G R il ρ = some o := by
  induction il with
  | chk c k ih => intro ρ o; simp only [run, den]; split; exact ih ρ o; exact id
  | lete e k ih => intro ρ o; simp only [run, den]; exact ih _ o
  | call pc m f args k ih =>
    intro ρ o; simp only [run, den]
    split
    · cases hv : A f (evs G ρ args) with
      | none => simp
      | some x => rw [h _ _ _ hv]; simp only [Option.bind_some]; exact ih _ o
    · exact ih _ o
  | callv pc m fe args k ih =>
    intro ρ o; simp only [run, den]
    split
    · cases hv : callD A (fe.ev G ρ) (evs G ρ args) with
      | none => simp
      | some x => rw [callD_mono h hv]; simp only [Option.bind_some]; exact ih _ o
    · exact ih _ o
  | ite c a b iha ihb => intro ρ o; simp only [run, den]; split; exact iha ρ o; exact ihb ρ o
  | out t vs => intro ρ o; simp only [run, den]; exact id
  | bindc a t m k iha ihk =>
    intro ρ o; simp only [run, den]
    cases hv : run G A n a ρ with
    | none => simp
    | some x =>
      rw [iha ρ x hv]; simp only [Option.bind_some]
      split
      · exact ihk _ o
      · exact id
  | loop es b ih =>
    intro ρ o; simp only [run, den]
    intro hi
    exact (loopL_iff _ _ _).2 ⟨n, iter_mono (fun vs o => ih _ o) (Nat.le_refl n) hi⟩
  | both a b iha ihb => intro ρ o; simp only [run, den, bothO_some]; exact fun ⟨h1, h2⟩ => ⟨iha ρ o h1, ihb ρ o h2⟩

section
variable (G : Nat → D) (prim : Nat → Option (List D → Option (List D))) (T : Nat → Option IL)
theorem run_up {n m : Nat} (h : n ≤ m) (il : IL) {ρ : List D} {o : Out} (e : run G (funs G prim T n) n il ρ = some o) : run G (funs G prim T m) m il ρ = some o :=
  run_mono G (funs_mono G prim T h) h il ρ o e
theorem run_of_den (il : IL) : ∀ ρ o, den G (Run G prim T) il ρ = some o → ∃ n, run G (funs G prim T n) n il ρ = some o := by
  induction il with
  | chk c k ih =>
    intro ρ o; simp only [run, den]; intro h
    split at h
    · rename_i hc; simp only [if_pos hc]; exact ih ρ o h
    · simp at h
  | lete e k ih => intro ρ o; simp only [run, den]; exact ih _ o
  | call pc m f args k ih =>
    intro ρ o; simp only [run, den]; intro h
    split at h
    · rename_i hc; simp only [if_pos hc]
      cases hv : Run G prim T f (evs G ρ args) with
      | none => simp [hv] at h
      | some x =>
        simp only [hv, Option.bind_some] at h
        obtain ⟨n, hn⟩ := ih _ o h
        obtain ⟨n', hn'⟩ := (Run_iff G prim T _ _ _).1 hv
        refine ⟨max n n', ?_⟩
        rw [funs_mono G prim T (Nat.le_max_right n n') _ _ _ hn']
        exact run_up G prim T (Nat.le_max_left n n') k hn
    · rename_i hc; simp only [if_neg hc]; exact ih _ o h
  | callv pc m fe args k ih =>
    intro ρ o; simp only [run, den]; intro h
    split at h
    · rename_i hc; simp only [if_pos hc]
      cases hv : callD (Run G prim T) (fe.ev G ρ) (evs G ρ args) with
      | none => simp [hv] at h
      | some x =>
        simp only [hv, Option.bind_some] at h
        obtain ⟨n, hn⟩ := ih _ o h
        have : ∃ n', callD (funs G prim T n') (fe.ev G ρ) (evs G ρ args) = some x := by
          unfold callD at hv ⊢
          split at hv
          · exact (Run_iff G prim T _ _ _).1 hv
          · simp at hv
        obtain ⟨n', hn'⟩ := this
        refine ⟨max n n', ?_⟩
        rw [callD_mono (funs_mono G prim T (Nat.le_max_right n n')) hn']
        exact run_up G prim T (Nat.le_max_left n n') k hn
    · rename_i hc; simp only [if_neg hc]; exact ih _ o h
  | ite c a b iha ihb =>
    intro ρ o; simp only [run, den]; intro h
    split at h
    · rename_i hc; simp only [if_pos hc]; exact iha ρ o h
    · rename_i hc; simp only [if_neg hc]; exact ihb ρ o h
  | out t vs => intro ρ o; simp only [run, den]; exact fun h => ⟨0, h⟩
  | bindc a t m k iha ihk =>
    intro ρ o; simp only [run, den]; intro h
    cases hv : den G (Run G prim T) a ρ with
    | none => simp [hv] at h
    | some x =>
      simp only [hv, Option.bind_some] at h
      obtain ⟨n, hn⟩ := iha ρ x hv
      split at h
      · rename_i hc
        obtain ⟨n', hn'⟩ := ihk _ o h
        refine ⟨max n n', ?_⟩
        rw [run_up G prim T (Nat.le_max_left n n') a hn]
        simp only [Option.bind_some, if_pos hc]
        exact run_up G prim T (Nat.le_max_right n n') k hn'
      · rename_i hc
        exact ⟨n, by rw [hn]; simpa [hc] using h⟩
  | loop es b ih =>
    intro ρ o; simp only [run, den]; intro h
    obtain ⟨n, hn⟩ := (loopL_iff _ _ _).1 h
    generalize evs G ρ es = vs at hn ⊢
    clear h
    have key : ∃ m, iter (fun vs => run G (funs G prim T m) m b (ρ ++ pad es.length vs)) n vs = some o := by
      induction n generalizing vs with
      | zero => simp [iter] at hn
      | succ n ihn =>
        simp only [iter] at hn ⊢
        cases hv : den G (Run G prim T) b (ρ ++ pad es.length vs) with
        | none => simp [hv] at hn
        | some x =>
          simp only [hv, Option.bind_some] at hn
          obtain ⟨m, hm⟩ := ih _ x hv
          split at hn
          · rename_i h0
            obtain ⟨m', hm'⟩ := ihn _ hn
            refine ⟨max m m', ?_⟩
            rw [run_up G prim T (Nat.le_max_left m m') b hm]
            simp only [Option.bind_some, if_pos h0]
            exact iter_mono (fun vs o => run_up G prim T (Nat.le_max_right m m') b) (Nat.le_refl n) hm'
          · rename_i h0
            exact ⟨m, by rw [hm]; simpa [h0] using hn⟩
    obtain ⟨m, hm⟩ := key
    exact ⟨max n m, iter_mono (fun vs o => run_up G prim T (Nat.le_max_right n m) b) (Nat.le_max_left n m) hm⟩
  | both a b iha ihb =>
    intro ρ o
    simp only [run, den, bothO_some]
    rintro ⟨h1, h2⟩
    obtain ⟨n, hn⟩ := iha ρ o h1
    obtain ⟨m, hm⟩ := ihb ρ o h2
    exact ⟨max n m, run_up G prim T (Nat.le_max_left n m) a hn, run_up G prim T (Nat.le_max_right n m) b hm⟩

/-- What a function answers is what its text means. -/
theorem Run_eq (f : Nat) (ds : List D) : Run G prim T f ds =
    match prim f with
    | some g => g ds
    | none => match T f with
      | some il => (den G (Run G prim T) il ds).bind outs
      | none => none := by
  apply Option.ext
  intro r
  rw [Run_iff]
  constructor
  · rintro ⟨n, hn⟩
    cases n with
    | zero => simp [funs] at hn
    | succ n =>
      rw [funs] at hn
      cases hp : prim f with
      | some g => simpa [hp] using hn
      | none =>
        simp only [hp] at hn ⊢
        cases ht : T f with
        | none => simp [ht] at hn
        | some il =>
          simp only [ht] at hn ⊢
          cases hr : run G (funs G prim T n) n il ds with
          | none => simp [hr] at hn
          | some o =>
            rw [den_of_run G (fun f ds r h => (Run_iff G prim T f ds r).2 ⟨n, h⟩) il ds o hr]
            simpa [hr] using hn
  · intro h
    cases hp : prim f with
    | some g => exact ⟨1, by simp only [funs, hp]; simpa [hp] using h⟩
    | none =>
      simp only [hp] at h
      cases ht : T f with
      | none => simp [ht] at h
      | some il =>
        simp only [ht] at h
        cases hr : den G (Run G prim T) il ds with
        | none => simp [hr] at h
        | some o =>
          obtain ⟨n, hn⟩ := run_of_den G prim T il ds o hr
          exact ⟨n + 1, by simp only [funs, hp, ht, hn]; simpa [hr] using h⟩
end
end Sy

/- How data lies in memory: 'RepC', cell by cell; 'RepV', as a value. What keeps it. -/
namespace Sy
open Go Go.RowKit

/-- Kinds of values: a type, looked through one name. -/
inductive K where
  | int (k : IntKind) | bool | str | slice (e : Nat) | struct (t : Nat) | arr (t : Nat) | ptr (e : Nat) | func (t : Nat) | bad
  deriving DecidableEq

inductive TD where
  | int (k : IntKind) | bool | str | slice (e : Nat) | struct (fs : List Nat) | arr (n e : Nat) | ptr (e : Nat) | func (ps rs : List Nat)
  deriving DecidableEq
structure TE where
  td : TD
  size : Nat
  bytes : Nat
structure Sig where
  params : List K
  results : List K
  own : List Bool
  deriving DecidableEq
/-- What is known of the program: its types, its functions' parameters, what its package-level variables hold. -/
structure Ctx where
  P : Program
  tys : List (Nat × TE)
  sigs : Nat → Option Sig
  G : Nat → D
  gk : Nat → Option Nat
  nest : List (Nat × Nat × Nat) := []

def look {α : Type} : List (Nat × α) → Nat → Option α
  | [], _ => none
  | (i, x) :: l, n => if i = n then some x else look l n

variable (C : Ctx)
def Ctx.te (t : Nat) : Option TE := look C.tys t
def Ctx.kd (t : Nat) : K :=
  match look C.tys t with
  | some e => match e.td with
    | .int k => .int k
    | .bool => .bool
    | .str => .str
    | .slice e => .slice e
    | .struct _ => .struct t
    | .arr _ _ => .arr t
    | .ptr e => .ptr e
    | .func _ _ => .func t
  | none => .bad
def Ctx.fields (t : Nat) : Option (List Nat) :=
  match look C.tys t with
  | some e => match e.td with
    | .struct fs => some fs
    | _ => none
  | none => none
def Ctx.arrOf (t : Nat) : Option (Nat × Nat) :=
  match look C.tys t with
  | some e => match e.td with
    | .arr n e => some (n, e)
    | _ => none
  | none => none
def Ctx.funcOf (t : Nat) : Option (List Nat × List Nat) :=
  match look C.tys t with
  | some e => match e.td with
    | .func ps rs => some (ps, rs)
    | _ => none
  | none => none
def Ctx.tsz (t : Nat) : Nat := match look C.tys t with | some e => e.size | none => 0
def Ctx.ksz : K → Nat
  | .struct t | .arr t => C.tsz t
  | _ => 1

def K.isRow : K → Bool
  | .struct _ | .arr _ => true
  | _ => false
/-- The value out of its cells. -/
def wrap (k : K) (cs : List Value) : Value := if k.isRow then .agg cs.toArray else cs.headD undef

mutual
inductive RepC (w : World) (ok : Nat → Prop) : K → D → List Value → Prop
  | int {k n} (h : k.min ≤ n ∧ n ≤ k.max) : RepC w ok (.int k) (.int n) [.int k n]
  | bool {b} : RepC w ok .bool (.bool b) [.bool b]
  | str {s : List UInt8} (h : s.length ≤ 140737488355328) : RepC w ok .str (.str s) [.string ⟨s.toArray⟩]
  | nils {e a cap} : RepC w ok (.slice e) (.list []) [.slice a 0 cap]
  | slice {e l b o cap cs} (h0 : l ≠ []) (hb : ok b) (hm : l.length ≤ 140737488355328) (hcap : l.length ≤ cap) (hc : cap ≤ 9223372036854775807) (hl : RepL w ok (C.kd e) l cs) (hr : w.rangeAt b o cs) :
      RepC w ok (.slice e) (.list l) [.slice (some ⟨b, o, none⟩) l.length cap]
  | struct {t fs ds cs} (h : C.fields t = some fs) (hf : RepF w ok fs ds cs) : RepC w ok (.struct t) (.agg ds) cs
  | arr {t n e ds cs} (h : C.arrOf t = some (n, e)) (hn : ds.length = n) (hl : RepL w ok (C.kd e) ds cs) : RepC w ok (.arr t) (.agg ds) cs
  | ptr {e d b o cs} (hb : ok b) (hd : RepC w ok (C.kd e) d cs) (hr : w.rangeAt b o cs) : RepC w ok (.ptr e) (.ptr d) [.pointer (some ⟨b, o, none⟩)]
  | nilp {e} : RepC w ok (.ptr e) .nil [.pointer none]
  | func {t f first cap k1 k2 v1 v2 ps rs sg} (h : C.funcOf t = some (ps, rs)) (hs : C.sigs f = some sg) (hp : sg.params = k1 ++ ps.map C.kd ++ k2) (hq : sg.results = rs.map C.kd)
      (h1 : RepVs w ok k1 first v1) (h2 : RepVs w ok k2 cap v2) : RepC w ok (.func t) (.fn f first cap) [.func (.func f) v1.toArray v2.toArray]
inductive RepL (w : World) (ok : Nat → Prop) : K → List D → List Value → Prop
  | nil {k} : RepL w ok k [] []
  | cons {k d l cs cs'} (h : RepC w ok k d cs) (hl : RepL w ok k l cs') : RepL w ok k (d :: l) (cs ++ cs')
inductive RepF (w : World) (ok : Nat → Prop) : List Nat → List D → List Value → Prop
  | nil : RepF w ok [] [] []
  | cons {t ts d l cs cs'} (h : RepC w ok (C.kd t) d cs) (hl : RepF w ok ts l cs') : RepF w ok (t :: ts) (d :: l) (cs ++ cs')
inductive RepVs (w : World) (ok : Nat → Prop) : List K → List D → List Value → Prop
  | nil : RepVs w ok [] [] []
  | cons {k ks d l cs vs} (h : RepC w ok k d cs) (hl : RepVs w ok ks l vs) : RepVs w ok (k :: ks) (d :: l) (wrap k cs :: vs)
end

def RepV (w : World) (ok : Nat → Prop) (k : K) (d : D) (v : Value) : Prop := ∃ cs, RepC C w ok k d cs ∧ v = wrap k cs

variable {C}
theorem rangeAt_same {w w' : World} {b o : Nat} {cs : List Value} (h : w.rangeAt b o cs) (hb : w'.heap[b]? = w.heap[b]?) : w'.rangeAt b o cs := fun j v hv => by
  rw [World.cell?_of_block (w := w) (a := ⟨b, o + j, none⟩) hb]; exact h j v hv

mutual
/-- What touches only blocks that are as they were lies as it lay. -/
theorem RepC.keep {w w' : World} {ok ok' : Nat → Prop} (ho : ∀ b, ok b → ok' b) (hw : ∀ b, ok b → w'.heap[b]? = w.heap[b]?) {k : K} {d : D} {cs : List Value} : RepC C w ok k d cs → RepC C w' ok' k d cs
  | .int h => .int h
  | .bool => .bool
  | .str h => .str h
  | .nils => .nils
  | .slice h0 hb hm hcap hc hl hr => .slice h0 (ho _ hb) hm hcap hc (hl.keep ho hw) (rangeAt_same hr (hw _ hb))
  | .struct h hf => .struct h (hf.keep ho hw)
  | .arr h hn hl => .arr h hn (hl.keep ho hw)
  | .ptr hb hd hr => .ptr (ho _ hb) (hd.keep ho hw) (rangeAt_same hr (hw _ hb))
  | .nilp => .nilp
  | .func h hs hp hq h1 h2 => .func h hs hp hq (h1.keep ho hw) (h2.keep ho hw)
theorem RepL.keep {w w' : World} {ok ok' : Nat → Prop} (ho : ∀ b, ok b → ok' b) (hw : ∀ b, ok b → w'.heap[b]? = w.heap[b]?) {k : K} {l : List D} {cs : List Value} : RepL C w ok k l cs → RepL C w' ok' k l cs
  | .nil => .nil
  | .cons h hl => .cons (h.keep ho hw) (hl.keep ho hw)
theorem RepF.keep {w w' : World} {ok ok' : Nat → Prop} (ho : ∀ b, ok b → ok' b) (hw : ∀ b, ok b → w'.heap[b]? = w.heap[b]?) {ts : List Nat} {l : List D} {cs : List Value} : RepF C w ok ts l cs → RepF C w' ok' ts l cs
  | .nil => .nil
  | .cons h hl => .cons (h.keep ho hw) (hl.keep ho hw)
theorem RepVs.keep {w w' : World} {ok ok' : Nat → Prop} (ho : ∀ b, ok b → ok' b) (hw : ∀ b, ok b → w'.heap[b]? = w.heap[b]?) {ks : List K} {l : List D} {vs : List Value} : RepVs C w ok ks l vs → RepVs C w' ok' ks l vs
  | .nil => .nil
  | .cons h hl => .cons (h.keep ho hw) (hl.keep ho hw)
end
theorem RepV.keep {w w' : World} {ok ok' : Nat → Prop} (ho : ∀ b, ok b → ok' b) (hw : ∀ b, ok b → w'.heap[b]? = w.heap[b]?) {k : K} {d : D} {v : Value} (h : RepV C w ok k d v) : RepV C w' ok' k d v :=
  let ⟨cs, h1, h2⟩ := h; ⟨cs, h1.keep ho hw, h2⟩

mutual
/-- Every cell is one cell. -/
theorem RepC.one {w : World} {ok : Nat → Prop} {k : K} {d : D} {cs : List Value} : RepC C w ok k d cs → ∀ v ∈ cs, v.oneCell' = true
  | .int _ | .bool | .str _ | .nils | .slice .. | .ptr .. | .nilp | .func .. => by intro v hv; simp only [List.mem_singleton] at hv; subst hv; rfl
  | .struct _ hf => hf.one
  | .arr _ _ hl => hl.one
theorem RepL.one {w : World} {ok : Nat → Prop} {k : K} {l : List D} {cs : List Value} : RepL C w ok k l cs → ∀ v ∈ cs, v.oneCell' = true
  | .nil => by simp
  | .cons h hl => by
    have h1 := h.one
    have h2 := hl.one
    intro v hv
    rcases List.mem_append.1 hv with hv | hv
    · exact h1 v hv
    · exact h2 v hv
theorem RepF.one {w : World} {ok : Nat → Prop} {ts : List Nat} {l : List D} {cs : List Value} : RepF C w ok ts l cs → ∀ v ∈ cs, v.oneCell' = true
  | .nil => by simp
  | .cons h hl => by
    have h1 := h.one
    have h2 := hl.one
    intro v hv
    rcases List.mem_append.1 hv with hv | hv
    · exact h1 v hv
    · exact h2 v hv
end

/-- The tables say what the program's types are. -/
def offsOK (C : Ctx) : List Field → List Nat → Nat → Bool
  | [], [], _ => true
  | f :: fs, t :: ts, o => decide (f.type = t) && decide (f.offset = o) && decide (0 < C.tsz t) && (f.name != "_") && offsOK C fs ts (o + C.tsz t)
  | _, _, _ => false
def sumSz (C : Ctx) : List Nat → Nat
  | [] => 0
  | t :: ts => C.tsz t + sumSz C ts
def inTab (C : Ctx) (t : Nat) : Bool := (C.te t).isSome
def teOK (C : Ctx) (t : Nat) (e : TE) : Bool :=
  (match C.P.underlying t, e.td with
    | some (.int k), .int k' => decide (k = k') && decide (e.size = 1)
    | some .bool, .bool => decide (e.size = 1)
    | some .string, .str => decide (e.size = 1)
    | some (.slice x), .slice y => decide (x = y) && decide (e.size = 1) && inTab C y
    | some (.struct fs), .struct ts => offsOK C fs.toList ts 0 && decide (e.size = sumSz C ts) && decide (C.P.stoodInHeld t = false)
    | some (.array n x), .arr m y => decide (n = m) && decide (x = y) && decide (e.size = n * C.tsz y) && inTab C y
    | some (.pointer x), .ptr y => decide (x = y) && decide (e.size = 1) && inTab C y
    | some (.func ps rs v), .func qs ss => decide (ps.toList = qs) && decide (rs.toList = ss) && !v && decide (e.size = 1)
    | _, _ => false) &&
  decide (0 < e.size) && decide (e.bytes ≤ 4096) &&
  (match C.P.info? t with
    | some i => decide (i.size = e.size) && decide (i.bytes = e.bytes)
    | none => false)
def tysOK (C : Ctx) : List (Nat × TE) → Bool
  | [] => true
  | (t, e) :: l => teOK C t e && tysOK C l
theorem tysOK_at {C : Ctx} : ∀ {l : List (Nat × TE)}, tysOK C l = true → ∀ {t e}, look l t = some e → teOK C t e = true
  | [], _, _, _, h => by simp [look] at h
  | (i, x) :: l, hl, t, e, h => by
    simp only [tysOK, Bool.and_eq_true] at hl
    simp only [look] at h
    split at h
    · rename_i hi; subst hi; simp only [Option.some.injEq] at h; subst h; exact hl.1
    · exact tysOK_at hl.2 h

structure TyFact (C : Ctx) (t : Nat) (e : TE) : Prop where
  pos : 0 < e.size
  bytes : e.bytes ≤ 4096
  info : ∃ i, C.P.info? t = some i ∧ i.size = e.size ∧ i.bytes = e.bytes
  int : ∀ k, e.td = .int k → C.P.underlying t = some (.int k) ∧ e.size = 1
  bool : e.td = .bool → C.P.underlying t = some .bool ∧ e.size = 1
  str : e.td = .str → C.P.underlying t = some .string ∧ e.size = 1
  slice : ∀ x, e.td = .slice x → C.P.underlying t = some (.slice x) ∧ e.size = 1 ∧ inTab C x = true
  struct : ∀ ts, e.td = .struct ts → ∃ fs, C.P.underlying t = some (.struct fs) ∧ offsOK C fs.toList ts 0 = true ∧ e.size = sumSz C ts ∧ C.P.stoodInHeld t = false
  arr : ∀ n x, e.td = .arr n x → C.P.underlying t = some (.array n x) ∧ e.size = n * C.tsz x ∧ inTab C x = true
  ptr : ∀ x, e.td = .ptr x → C.P.underlying t = some (.pointer x) ∧ e.size = 1 ∧ inTab C x = true
  func : ∀ ps rs, e.td = .func ps rs → C.P.underlying t = some (.func ps.toArray rs.toArray false) ∧ e.size = 1
theorem TyFact.of {C : Ctx} {t : Nat} {e : TE} (h : teOK C t e = true) : TyFact C t e := by
  obtain ⟨td, sz, by_⟩ := e
  simp only [teOK, Bool.and_eq_true, decide_eq_true_eq] at h
  obtain ⟨⟨⟨h1, h2⟩, h3⟩, h4⟩ := h
  refine ⟨h2, h3, ?_, ?_, ?_, ?_, ?_, ?_, ?_, ?_, ?_⟩
  · cases hi : C.P.info? t with
    | none => simp [hi] at h4
    | some i => simp only [hi, Bool.and_eq_true, decide_eq_true_eq] at h4; exact ⟨i, rfl, h4.1, h4.2⟩
  all_goals
    intros
    rename_i he
    simp only at he
    subst he
    cases hu : C.P.underlying t with
    | none => simp [hu] at h1
    | some d =>
      cases d <;> simp [hu] at h1 ⊢ <;> first | (simp_all; done) | (obtain ⟨⟨⟨rfl, rfl⟩, rfl⟩, rfl⟩ := h1; simp)
/-! ### Zero values -/
def zrepL (f : Nat → List Value → Option (List Value)) : List Nat → List Value → Option (List Value)
  | [], cs => some cs
  | t :: ts, cs => match f t cs with
    | some r => zrepL f ts r
    | none => none
def zrepN (f : List Value → Option (List Value)) : Nat → List Value → Option (List Value)
  | 0, cs => some cs
  | n + 1, cs => match f cs with
    | some r => zrepN f n r
    | none => none
def zleaf : TD → Value → Bool
  | .int k, .int k' m => decide (k = k') && decide (m = 0)
  | .bool, .bool b => !b
  | .str, .string s => s.data.toList.isEmpty
  | .slice _, .slice none 0 0 => true
  | .ptr _, .pointer none => true
  | _, _ => false
def zhead (td : TD) (cs : List Value) : Option (List Value) :=
  match cs with
  | v :: r => if zleaf td v then some r else none
  | [] => none
/-- Do the cells begin with the zero of a type? What is left. -/
def zrep (C : Ctx) : Nat → Nat → List Value → Option (List Value)
  | 0, _, _ => none
  | n + 1, t, cs => match C.te t with
    | none => none
    | some e => match e.td with
      | .struct fs => zrepL (zrep C n) fs cs
      | .arr m x => zrepN (zrep C n x) m cs
      | td => zhead td cs
def zOK (C : Ctx) (t : Nat) : Bool :=
  match C.P.info? t with
  | some i => match i.zero with
    | some z => match zrep C 12 t z.cells.toList with
      | some [] => true
      | _ => false
    | none => false
  | none => false
end Sy

/- The turning of the program's functions into the small language: what each operation does to what is known of a function's variables. Programs alone; that they are right is proved elsewhere. -/
namespace Sy
open Go

/-- What is known of a variable. -/
inductive SV where
  | dat (k : K) (e : Ex)
  | nils (e : Nat)
  | nil0
  | nilp
  | sli (n ver e : Nat)
  | bptr (n : Nat) (path : List Nat) (t : Nat)
  | eptr (n ver : Nat) (i : Ex) (path : List Nat) (t : Nat)
  | agg (t : Nat) (l : List SV)
  | tup (l : List SV)
  | fnc (f : Nat) (first cap : List SV)
  | tab (e : Nat) (l : List SV)
  | tptr (e : Nat) (i : Ex) (l : List SV)
  | alt (i : Ex) (l : List SV)
  | nilq (e : Ex)
  | nrow (n rv : Nat) (i : Ex) (x : Nat)
  | gd (pc : PC) (v : SV)
  | junk
  deriving Inhabited

/-- What is known of memory of the call's own. 'box': a variable; 'arr': a row that belongs to one slice; 'fbox', 'farr': the same, never to be written again. -/
inductive Ob where
  | box (t : Nat) (v : SV)
  | arr (e : Nat) (c : Ex) (ver : Nat)
  | fbox (t : Nat) (c : Ex)
  | farr (e : Nat) (c : Ex) (ver : Nat)
  | narr (e f : Nat) (c : Ex) (ver rv : Nat) (hole : Option (Ex × Ex))
  deriving Inhabited

structure S where
  n : Nat
  nt : Nat
  sl : List (Nat × SV)
  ob : List (Nat × PC × Ob)

abbrev Obs := Nat → Option Ob

/-! ### Small things -/
def Ex.sc (n : Nat) : Ex → Bool
  | .var i => decide (i < n)
  | .un _ a => a.sc n
  | .bin _ a b => a.sc n && b.sc n
  | .tri _ a b c => a.sc n && b.sc n && c.sc n
  | .fn _ a b => a.sc n && b.sc n
  | _ => true
def pcSc (n : Nat) : PC → Bool
  | [] => true
  | (e, _) :: l => e.sc n && pcSc n l
mutual
def SV.sc (n : Nat) : SV → Bool
  | .dat _ e => e.sc n
  | .eptr _ _ i _ _ => i.sc n
  | .agg _ l => SV.scs n l
  | .tup l => SV.scs n l
  | .fnc _ a b => SV.scs n a && SV.scs n b
  | .tab _ l => SV.scs n l
  | .tptr _ i l => i.sc n && SV.scs n l
  | .alt i l => i.sc n && SV.scs n l
  | .nilq e => e.sc n
  | .nrow _ _ i _ => i.sc n
  | .gd pc v => pcSc n pc && v.sc n
  | _ => true
def SV.scs (n : Nat) : List SV → Bool
  | [] => true
  | v :: l => v.sc n && SV.scs n l
end
def Ob.sc (n : Nat) : Ob → Bool
  | .box _ v => v.sc n
  | .arr _ c _ | .fbox _ c | .farr _ c _ => c.sc n
  | .narr _ _ c _ _ hole => c.sc n && (match hole with
    | some (i, x) => i.sc n && x.sc n
    | none => true)
def slSc (n : Nat) : List (Nat × SV) → Bool
  | [] => true
  | (_, v) :: l => v.sc n && slSc n l
def obSc (n : Nat) : List (Nat × PC × Ob) → Bool
  | [] => true
  | (_, q, o) :: l => pcSc n q && o.sc n && obSc n l
def S.sc (s : S) : Bool := slSc s.n s.sl && obSc s.n s.ob

mutual
/-- Is object m (at version ver, if some) not named? -/
def SV.free (m : Nat) : SV → Bool
  | .sli n _ _ => decide (n ≠ m)
  | .bptr n _ _ => decide (n ≠ m)
  | .eptr n _ _ _ _ => decide (n ≠ m)
  | .nrow n _ _ _ => decide (n ≠ m)
  | .agg _ l => SV.frees m l
  | .tup l => SV.frees m l
  | .fnc _ a b => SV.frees m a && SV.frees m b
  | .tab _ l => SV.frees m l
  | .tptr _ _ l => SV.frees m l
  | .alt _ l => SV.frees m l
  | .gd _ v => v.free m
  | _ => true
def SV.frees (m : Nat) : List SV → Bool
  | [] => true
  | v :: l => v.free m && SV.frees m l
end
mutual
/-- Is version ver of array m not named? -/
def SV.freeV (m ver : Nat) : SV → Bool
  | .sli n v _ => decide (n ≠ m) || decide (v ≠ ver)
  | .eptr n v _ _ _ => decide (n ≠ m) || decide (v ≠ ver)
  | .nrow n v _ _ => decide (n ≠ m) || decide (v ≠ ver)
  | .agg _ l => SV.freeVs m ver l
  | .tup l => SV.freeVs m ver l
  | .fnc _ a b => SV.freeVs m ver a && SV.freeVs m ver b
  | .tab _ l => SV.freeVs m ver l
  | .tptr _ _ l => SV.freeVs m ver l
  | .alt _ l => SV.freeVs m ver l
  | .gd _ v => v.freeV m ver
  | _ => true
def SV.freeVs (m ver : Nat) : List SV → Bool
  | [] => true
  | v :: l => v.freeV m ver && SV.freeVs m ver l
end
def Ob.free (m : Nat) : Ob → Bool
  | .box _ v => v.free m
  | _ => true
def Ob.freeV (m ver : Nat) : Ob → Bool
  | .box _ v => v.freeV m ver
  | _ => true
def slFree (m : Nat) : List (Nat × SV) → Bool
  | [] => true
  | (_, v) :: l => v.free m && slFree m l
def obFree (m : Nat) : List (Nat × PC × Ob) → Bool
  | [] => true
  | (i, _, o) :: l => decide (i ≠ m) && o.free m && obFree m l
def slFreeV (m ver : Nat) : List (Nat × SV) → Bool
  | [] => true
  | (_, v) :: l => v.freeV m ver && slFreeV m ver l
def obFreeV (m ver : Nat) : List (Nat × PC × Ob) → Bool
  | [] => true
  | (_, _, o) :: l => o.freeV m ver && obFreeV m ver l

/-- Lists out of expressions. -/
def exList : List Ex → Ex
  | [] => .lnil
  | e :: l => .bin .cons e (exList l)
def optAll {α : Type} : List (Option α) → Option (List α)
  | [] => some []
  | none :: _ => none
  | some x :: l => (optAll l).map (x :: ·)

def subPC : PC → PC → Bool
  | [], _ => true
  | x :: l, pc => pc.contains x && subPC l pc

variable (C : Ctx)
def K.int? : K → Option IntKind
  | .int k => some k
  | _ => none
def fl (C : Ctx) : Nat → K → Bool
  | 0, _ => false
  | n + 1, k => match k with
    | .int _ | .bool | .str => true
    | .struct t => match C.fields t with
      | some fs => fs.all fun f => fl C n (C.kd f)
      | none => false
    | .arr t => match C.arrOf t with
      | some (_, e) => fl C n (C.kd e)
      | none => false
    | _ => false
/-- Kinds whose values are compared field by field. -/
def fle (C : Ctx) : Nat → K → Bool
  | 0, _ => false
  | n + 1, k => match k with
    | .int _ | .bool | .str => true
    | .struct t => match C.fields t with
      | some fs => fs.all fun f => fle C n (C.kd f)
      | none => false
    | _ => false
/-- Kinds without a place in memory. -/
def Ctx.flat (k : K) : Bool := fl C 12 k

/-! ### Zero values -/
def zx (C : Ctx) : Nat → Nat → Option Ex
  | 0, _ => none
  | n + 1, t => match C.te t with
    | some e => match e.td with
      | .int _ => some (.int 0)
      | .bool => some (.bool false)
      | .str => some (.str [])
      | .slice _ => some .lnil
      | .ptr _ => some .nil
      | .struct fs => (optAll (fs.map (zx C n))).map fun l => .un .mkagg (exList l)
      | .arr m x => (zx C n x).map fun e => .un .mkagg (.bin .rep (.int m) e)
      | .func _ _ => none
    | none => none
/-- The zero of a type, as data. -/
def Ctx.zero (t : Nat) : Option Ex := zx C 12 t
def zsv (C : Ctx) : Nat → Nat → Option SV
  | 0, _ => none
  | n + 1, t => match C.te t with
    | some e => match e.td with
      | .slice x => some (.nils x)
      | .struct fs => (optAll (fs.map (zsv C n))).map fun l => .agg t l
      | _ => (zx C (n + 1) t).map (.dat (C.kd t))
    | none => none
/-- The zero of a type, with its nil slices. -/
def Ctx.zeroV (t : Nat) : Option SV := zsv C 12 t

/-! ### From what is known to data -/
def nthX : Ex → Nat → Option Ex
  | .bin .cons a _, 0 => some a
  | .bin .cons _ l, i + 1 => nthX l i
  | _, _ => none
/-- A field of a struct. -/
def fldE (e : Ex) (i : Nat) : Ex :=
  match e with
  | .un .mkagg l => match nthX l i with
    | some x => x
    | none => .un (.fld i) e
  | e => .un (.fld i) e
def projD (C : Ctx) : Ex → Nat → List Nat → Option (Ex × Nat)
  | e, t, [] => some (e, t)
  | e, t, i :: p => match C.fields t with
    | some fs => match fs[i]? with
      | some ft => projD C (fldE e i) ft p
      | none => none
    | none => none
def proj (C : Ctx) : SV → Nat → List Nat → Option (SV × Nat)
  | v, t, [] => some (v, t)
  | v, t, i :: p => match C.fields t with
    | some fs => match fs[i]? with
      | some ft => match v with
        | .agg _ l => match l[i]? with
          | some x => proj C x ft p
          | none => none
        | .dat _ e => proj C (.dat (C.kd ft) (fldE e i)) ft p
        | _ => none
      | none => none
    | none => none
def spread (C : Ctx) (e : Ex) : List Nat → Nat → List SV
  | [], _ => []
  | ft :: fs, i => .dat (C.kd ft) (fldE e i) :: spread C e fs (i + 1)
/-- A struct's fields. -/
def parts (C : Ctx) (t : Nat) : SV → Option (List SV)
  | .agg t' l => if t = t' then some l else none
  | .dat k e => if k = .struct t then (C.fields t).map fun fs => spread C e fs 0 else none
  | _ => none
def upd (C : Ctx) : SV → Nat → List Nat → SV → Option SV
  | _, _, [], x => some x
  | v, t, i :: p, x => match C.fields t with
    | some fs => match fs[i]?, parts C t v with
      | some ft, some l => match l[i]? with
        | some y => (upd C y ft p x).map fun y' => .agg t (l.set i y')
        | none => none
      | _, _ => none
    | none => none
def updD (C : Ctx) : Ex → Nat → List Nat → Ex → Option Ex
  | _, _, [], x => some x
  | e, t, i :: p, x => match C.fields t with
    | some fs => match fs[i]? with
      | some ft => (updD C (fldE e i) ft p x).map fun y => .bin (.setfld i) e y
      | none => none
    | none => none

mutual
/-- As data of a kind; and the objects that may still be written, in which it lies. -/
def toD (C : Ctx) (ob : Obs) : Nat → K → SV → Option (Ex × List Nat)
  | 0, _, _ => none
  | n + 1, k, v => match v with
    | .dat k' e => if k = k' then some (e, []) else none
    | .nils e => if k = .slice e then some (.lnil, []) else none
    | .nil0 => match k with
      | .slice _ => some (.lnil, [])
      | _ => none
    | .nilp => match k with
      | .ptr _ => some (.nil, [])
      | _ => none
    | .sli m ver e => if k = .slice e then (match ob m with
      | some (.arr e' c ver') => if ver = ver' ∧ e = e' then some (c, [m]) else none
      | some (.farr e' c ver') => if ver = ver' ∧ e = e' then some (c, []) else none
      | some (.narr e' _ c ver' _ none) => if ver = ver' ∧ e = e' then some (c, [m]) else none
      | _ => none) else none
    | .bptr m path t => if k = .ptr t then (match ob m with
      | some (.box tb x) => match toD C ob n (C.kd tb) x with
        | some (e0, ns) => match projD C e0 tb path with
          | some (e, t') => if t' = t then some (.un .mkptr e, m :: ns) else none
          | none => none
        | none => none
      | some (.fbox tb c) => match projD C c tb path with
        | some (e, t') => if t' = t then some (.un .mkptr e, []) else none
        | none => none
      | _ => none) else none
    | .eptr m ver i path t => if k = .ptr t then (match ob m with
      | some (.arr e c ver') => match projD C (.bin .idx c i) e path with
        | some (x, t') => if t' = t ∧ ver = ver' then some (.un .mkptr x, [m]) else none
        | none => none
      | some (.farr e c ver') => match projD C (.bin .idx c i) e path with
        | some (x, t') => if t' = t ∧ ver = ver' then some (.un .mkptr x, []) else none
        | none => none
      | _ => none) else none
    | .agg t l => if k = .struct t then (match C.fields t with
      | some fs => match toDs C ob n (fs.map C.kd) l with
        | some (es, ns) => some (.un .mkagg (exList es), ns)
        | none => none
      | none => none) else none
    | .fnc f first cap => match k with
      | .func t => match C.funcOf t, C.sigs f with
        | some (ps, rs), some sg =>
          let k1 := sg.params.take first.length
          let k2 := sg.params.drop (first.length + ps.length)
          if sg.params = k1 ++ ps.map C.kd ++ k2 ∧ sg.results = rs.map C.kd ∧ sg.own.all (· == false) then
            (match toDs C ob n k1 first, toDs C ob n k2 cap with
              | some (e1, n1), some (e2, n2) => some (.fn f (exList e1) (exList e2), n1 ++ n2)
              | _, _ => none)
          else none
        | _, _ => none
      | _ => none
    | _ => none
def toDs (C : Ctx) (ob : Obs) : Nat → List K → List SV → Option (List Ex × List Nat)
  | 0, _, _ => none
  | n + 1, ks, vs => match ks, vs with
    | [], [] => some ([], [])
    | k :: ks, v :: vs => match toD C ob n k v, toDs C ob n ks vs with
      | some (e, a), some (es, b) => some (e :: es, a ++ b)
      | _, _ => none
    | _, _ => none
end
def depth : Nat := 40
/-- The frozen version of an object. -/
def frz (C : Ctx) (ob : Obs) (all : List Nat) (m : Nat) : Option (Nat × Ob) :=
  match ob m with
  | some (.arr e c ver) => some (m, .farr e c ver)
  | some (.narr e _ c ver _ none) => some (m, .farr e c ver)
  | some (.box t v) => match toD C ob depth (C.kd t) v with
    | some (e, ns) => if ns.all (all.contains ·) then some (m, .fbox t e) else none
    | none => none
  | _ => none
def frzs (C : Ctx) (ob : Obs) (all : List Nat) : List Nat → Option (List (Nat × Ob))
  | [] => some []
  | m :: l => match frz C ob all m, frzs C ob all l with
    | some x, some r => some (x :: r)
    | _, _ => none

/-! ### The operations -/
inductive Pre where
  | chk (e : Ex)
  | call (m f : Nat) (args : List Ex)
  | callv (m : Nat) (fe : Ex) (args : List Ex)

structure Res where
  pre : List Pre
  v : SV
  up : List (Nat × Ob)
  nw : List Nat := []

def maxN : Nat := 34359738368   -- 2^35: how long a row may grow
def Ex.le (a b : Ex) : Ex := .bin .ile a b

/-- The length of a slice. -/
def lenOf (C : Ctx) (ob : Obs) : SV → Option Ex
  | .dat (.slice _) e => some (.un .len e)
  | .nils _ | .nil0 => some (.int 0)
  | .tab _ l => some (.int l.length)
  | .sli m ver _ => match ob m with
    | some (.arr _ c ver') | some (.farr _ c ver') | some (.narr _ _ c ver' _ _) => if ver = ver' then some (.un .len c) else none
    | _ => none
  | _ => none

def binI (op : BinOp) (k : IntKind) (a b : Ex) : Option (List Ex × SV) :=
  match op with
  | .add => some ([], .dat (.int k) (.bin (.add k) a b))
  | .sub => some ([], .dat (.int k) (.bin (.sub k) a b))
  | .mul => some ([], .dat (.int k) (.bin (.mul k) a b))
  | .quo => some ([.un .not (.bin .ieq b (.int 0))], .dat (.int k) (.bin (.quo k) a b))
  | .rem => some ([.un .not (.bin .ieq b (.int 0))], .dat (.int k) (.bin (.rem k) a b))
  | .eql => some ([], .dat .bool (.bin .ieq a b))
  | .neq => some ([], .dat .bool (.un .not (.bin .ieq a b)))
  | .lss => some ([], .dat .bool (.bin .ilt a b))
  | .leq => some ([], .dat .bool (.bin .ile a b))
  | .gtr => some ([], .dat .bool (.bin .ilt b a))
  | .geq => some ([], .dat .bool (.bin .ile b a))
  | _ => none
def binS (op : BinOp) (a b : Ex) : Option (List Ex × SV) :=
  match op with
  | .add => some ([.bin (.fits maxN) (.un .slen a) (.un .slen b)], .dat .str (.bin .cat a b))
  | .eql => some ([], .dat .bool (.bin .seq a b))
  | .neq => some ([], .dat .bool (.un .not (.bin .seq a b)))
  | .lss => some ([], .dat .bool (.bin .slt a b))
  | .gtr => some ([], .dat .bool (.bin .slt b a))
  | .leq => some ([], .dat .bool (.un .not (.bin .slt b a)))
  | .geq => some ([], .dat .bool (.un .not (.bin .slt a b)))
  | _ => none
def eqFor (op : BinOp) (x : Ex) : Option SV :=
  match op with
  | .eql => some (.dat .bool x)
  | .neq => some (.dat .bool (.un .not x))
  | _ => none
def binV (C : Ctx) (ob : Obs) (op : BinOp) (t : Nat) (a b : SV) : Option (List Ex × SV) :=
  match op, a, b with
  | .shl, .dat (.int k) x, .dat (.int _) y => some ([.bin .ile (.int 0) y], .dat (.int k) (.bin (.shl k) x y))
  | .shr, .dat (.int k) x, .dat (.int _) y => some ([.bin .ile (.int 0) y], .dat (.int k) (.bin (.shr k) x y))
  | op, .dat (.int k) x, .dat (.int k') y => if k = k' then binI op k x y else none
  | op, .dat .str x, .dat .str y => binS op x y
  | op, .dat .bool x, .dat .bool y => if C.kd t = .bool then (eqFor op (.bin .beq x y)).map fun v => ([], v) else none
  | op, .bptr _ _ _, .nilp => match C.kd t with
    | .ptr _ => (eqFor op (.bool false)).map fun v => ([], v)
    | _ => none
  | .eql, .dat (.slice t') x, .nil0 => if C.kd t = .slice t' then some ([], .nilq x) else none
  | op, .dat (.ptr t') x, .nilp => if C.kd t = .ptr t' then (eqFor op (.un .not (.un .isptr x))).map fun v => ([], v) else none
  | op, a, b => match C.kd t with
    | .struct t' => if t' = t ∧ fle C 12 (.struct t') = true then (match toD C ob depth (.struct t') a, toD C ob depth (.struct t') b with
      | some (x, []), some (y, []) => (eqFor op (.bin .deq x y)).map fun v => ([], v)
      | _, _ => none) else none
    | _ => none

def sliceV (C : Ctx) (ob : Obs) (t : Nat) (x : SV) (lo hi : Option Ex) : Option (List Ex × SV × List Nat) :=
  let l := lo.getD (.int 0)
  match C.kd t with
  | .str => match x with
    | .dat .str e =>
      let h := hi.getD (.un .slen e)
      some ([.tri .cut l h (.un .slen e)], .dat .str (.bin .sdrop (.bin .stake e h) l), [])
    | _ => none
  | .slice t => match toD C ob depth (.slice t) x with
    | some (e, ns) =>
      let h := hi.getD (.un .len e)
      some ([.tri .cut l h (.un .len e)], .dat (.slice t) (.bin .drop (.bin .take e h) l), ns)
    | none => none
  | _ => none

/-- A struct, an array out of its parts. -/
def setAt (l : List SV) : List (Nat × SV) → List SV
  | [] => l
  | (i, v) :: r => setAt (l.set i v) r
def aggOf (C : Ctx) (fs : List Nat) (ps : List (Nat × SV)) : Bool := ps.all fun p => decide (p.1 < fs.length)

def nodupB : List Nat → Bool
  | [] => true
  | x :: l => !l.contains x && nodupB l

/-- What a call hands back: variables of the environment from n on. -/
def resVs (C : Ctx) (dst n : Nat) : List K → List Bool → Nat → Option (List SV × List (Nat × Ob))
  | [], _, _ => some ([], [])
  | k :: ks, own, i =>
    match resVs C dst n ks own.tail (i + 1) with
    | none => none
    | some (vs, ups) =>
      if own.headD false then
        match k with
        | .slice e => if inTab C e then some (.sli (8 * dst + i) 0 e :: vs, (8 * dst + i, .arr e (.var (n + i)) 0) :: ups) else none
        | _ => none
      else some (.dat k (.var (n + i)) :: vs, ups)
/-- Do the results lie in nothing that came in? -/
def freshRes (C : Ctx) : List K → List Bool → Bool
  | [], _ => true
  | k :: ks, own => (C.flat k || (own.headD false && (match k with | .slice e => C.flat (C.kd e) | _ => false))) && freshRes C ks own.tail

/-- An operand's kind is told by the place where it stands. -/
def typ (C : Ctx) (k : K) : SV → SV
  | .nil0 => match k with
    | .slice e => .nils e
    | _ => .nil0
  | .nilp => match k with
    | .ptr e => .dat (.ptr e) .nil
    | _ => .nilp
  | v => v

def oneV (l : List SV) : SV := match l with | [v] => v | l => .tup l

def mutAll (ob : Obs) (ns : List Nat) : Bool := ns.all fun m => match ob m with
  | some (.arr _ _ _) | some (.box _ _) | some (.narr ..) => true
  | _ => false
def callF (C : Ctx) (ob : Obs) (n dst : Nat) (cond : Bool) (f : Nat) (args : List SV) : Option Res :=
  match C.sigs f with
  | none => none
  | some sg =>
    match toDs C ob depth sg.params args with
    | none => none
    | some (es, ns) =>
      match (if cond then some ([], []) else resVs C dst n sg.results sg.own 0) with
      | none => none
      | some (vs, ups) =>
        if 1 < ups.length then none else
        let v := if cond then .junk else oneV vs
        if freshRes C sg.results sg.own && mutAll ob ns then some { pre := [.call sg.results.length f es], v, up := ups, nw := ups.map (·.1) }
        else match frzs C ob ns ns with
          | some fs => some { pre := [.call sg.results.length f es], v, up := ups ++ fs, nw := ups.map (·.1) }
          | none => none
def callV (C : Ctx) (ob : Obs) (n dst : Nat) (cond : Bool) (t : Nat) (fe : Ex) (args : List SV) : Option Res :=
  match C.funcOf t with
  | none => none
  | some (ps, rs) =>
    match toDs C ob depth (ps.map C.kd) args with
    | none => none
    | some (es, ns) =>
      match (if cond then some ([], []) else resVs C dst n (rs.map C.kd) [] 0) with
      | none => none
      | some (vs, _) =>
        match frzs C ob ns ns with
        | some fs => some { pre := [.callv rs.length fe es], v := if cond then .junk else oneV vs, up := fs }
        | none => none

/-- Which of some functions is called: as data, with what is bound. -/
def altFns (C : Ctx) (ob : Obs) (ks rs : List K) (own : List Bool) (n : Nat) : List SV → Option (List Ex)
  | [] => some []
  | .fnc f a b :: l => match C.sigs f with
    | some sg =>
      let k1 := sg.params.take a.length
      let k2 := sg.params.drop (a.length + n)
      if sg.params = k1 ++ ks ++ k2 ∧ sg.results = rs ∧ sg.own = own then
        (match toDs C ob depth k1 a, toDs C ob depth k2 b, altFns C ob ks rs own n l with
          | some (e1, n1), some (e2, n2), some r => if mutAll ob n1 && mutAll ob n2 then some (.fn f (exList e1) (exList e2) :: r) else none
          | _, _, _ => none)
      else none
    | none => none
  | _ :: _ => none
def callA (C : Ctx) (ob : Obs) (n dst : Nat) (cond : Bool) (i : Ex) (l : List SV) (args : List SV) : Option Res :=
  match l with
  | .fnc f a _ :: _ => match C.sigs f with
    | none => none
    | some sg =>
      let ks := (sg.params.drop a.length).take args.length
      match toDs C ob depth ks args, altFns C ob ks sg.results sg.own args.length l with
      | some (es, ns), some fs =>
        match (if cond then some ([], []) else resVs C dst n sg.results sg.own 0) with
        | none => none
        | some (vs, ups) =>
          if 1 < ups.length then none else
          if freshRes C sg.results sg.own && mutAll ob ns then some { pre := [.callv sg.results.length (.bin .idx (exList fs) i) es], v := if cond then .junk else oneV vs, up := ups, nw := ups.map (·.1) }
          else none
      | _, _ => none
  | _ => none
def isFncs : List SV → Bool
  | [] => true
  | .fnc .. :: l => isFncs l
  | _ => false
def isBptrs : List SV → Bool
  | [] => true
  | .bptr .. :: l => isBptrs l
  | _ => false
/-- The values at 0, 1, .. -/
def tabOf (ps : List (Nat × SV)) : Nat → Nat → Option (List SV)
  | 0, _ => some []
  | n + 1, i => match look ps i, tabOf ps n (i + 1) with
    | some v, some l => some (v :: l)
    | _, _ => none
def isTab (C : Ctx) (e len : Nat) (ps : List (Nat × SV)) : Bool :=
  nodupB (ps.map (·.1)) && ps.all (fun p => decide (p.1 < len)) && decide (len ≤ 4096) && decide (0 < len) && decide (C.tsz e = 1) && (C.te e).isSome &&
  (match C.kd e with
    | .func _ => isFncs (ps.map (·.2))
    | .ptr _ => isBptrs (ps.map (·.2))
    | _ => false) && (match C.P.info? e with
    | some i => (match i.zero with
      | some z => decide (z.cells.size = 1)
      | none => false)
    | none => false)

def mmV (op : U2) : List Ex → Option Ex
  | [] => none
  | x :: l => some (l.foldl (fun a b => .bin op a b) x)

def deref (e : Ex) : Ex :=
  match e with
  | .un .mkptr x => x
  | e => .un .deref e
def fieldSV (C : Ctx) (s i : Nat) (x : SV) : Option SV :=
  match C.fields s with
  | none => none
  | some fs => match fs[i]? with
    | none => none
    | some ft => match x with
      | .bptr m p t => if t = s then some (.bptr m (p ++ [i]) ft) else none
      | .eptr m ver j p t => if t = s then some (.eptr m ver j (p ++ [i]) ft) else none
      | .dat (.ptr t) (.un .mkptr e) => if t = s then some (.dat (.ptr ft) (.un .mkptr (fldE e i))) else none
      | _ => none

def kindOK (C : Ctx) (k : K) : SV → Bool
  | .dat k' _ => decide (k = k')
  | .nils e => decide (k = .slice e)
  | .sli _ _ e => decide (k = .slice e)
  | .bptr _ _ t => decide (k = .ptr t)
  | .agg t l => decide (k = .struct t) && (match C.fields t with
    | some fs => decide (fs.length = l.length)
    | none => false)
  | _ => false

def loadV (C : Ctx) (ob : Obs) (t : Nat) : SV → Option SV
  | .bptr m p t' => if t = t' then (match ob m with
    | some (.box tb x) => match proj C x tb p with
      | some (y, t'') => if t'' = t then some y else none
      | none => none
    | some (.fbox tb c) => match projD C c tb p with
      | some (e, t'') => if t'' = t then some (.dat (C.kd t) e) else none
      | none => none
    | _ => none) else none
  | .eptr m ver i p t' => if t = t' then (match ob m with
    | some (.arr e c ver') | some (.farr e c ver') => match projD C (.bin .idx c i) e p with
      | some (x, t'') => if t'' = t ∧ ver = ver' then some (.dat (C.kd t) x) else none
      | none => none
    | some (.narr e f _ ver' rv none) => if p = [f] ∧ ver = ver' then (match C.fields e with
      | some fs => if fs[f]? = some t then (match C.kd t with
        | .slice x => some (.nrow m rv i x)
        | _ => none) else none
      | none => none) else none
    | _ => none) else none
  | .dat (.ptr t') (.un .mkptr x) => if t = t' then some (.dat (C.kd t) x) else none
  | .tptr e i l => if t = e then some (.alt i l) else none
  | _ => none
/-- Fields of one variable, one of which is written. -/
def storeAlt (C : Ctx) (m tb t : Nat) (i x : Ex) : List SV → Nat → SV → Option SV
  | [], _, v => some v
  | .bptr m' p t' :: l, j, v => if m = m' ∧ t = t' then (match proj C v tb p with
    | some (.dat k y, t'') => if t'' = t ∧ k = C.kd t then (match upd C v tb p (.dat k (.tri .ite (.bin .ieq i (.int j)) x y)) with
      | some v' => storeAlt C m tb t i x l (j + 1) v'
      | none => none) else none
    | _ => none) else none
  | _, _, _ => none
def storeV (C : Ctx) (ob : Obs) (t : Nat) (a x : SV) : Option (List (Nat × Ob)) :=
  match a with
  | .bptr m p t' => if t = t' then (match ob m with
    | some (.box tb v) => match proj C v tb p with
      | some (_, t'') =>
        let x' := typ C (C.kd t) x
        if t'' = t ∧ kindOK C (C.kd t) x' then (upd C v tb p x').map fun v' => [(m, .box tb v')] else none
      | none => none
    | _ => none) else none
  | .eptr m ver i p t' => if t = t' then (match ob m with
    | some (.arr e c ver') => match projD C (.bin .idx c i) e p, toD C ob depth (C.kd t) x with
      | some (_, t''), some (xd, ns) =>
        if t'' = t ∧ ver = ver' ∧ ns.contains m = false then (match updD C (.bin .idx c i) e p xd, frzs C ob ns ns with
          | some el, some fs => some ((m, .arr e (.tri .set c i el) ver) :: fs)
          | _, _ => none) else none
      | _, _ => none
    | some (.narr e f c ver' rv none) => if p = [] ∧ ver = ver' ∧ e = t then (match x with
      | .agg t2 l => match l[f]?, toD C ob depth (.struct t) (.agg t2 l) with
        | some (.nils _), some (xd, []) => some [(m, .narr e f (.tri .set c i xd) ver (rv + 1) none)]
        | _, _ => none
      | _ => none) else none
    | some (.narr e f c ver' rv (some (j, y))) => match x with
      | .nrow m' rv' i' _ => if p = [f] ∧ ver = ver' ∧ m' = m ∧ rv' = rv ∧ i' = i ∧ j = i then some [(m, .narr e f (.tri .set c i (.bin (.setfld f) (.bin .idx c i) y)) ver rv none)] else none
      | _ => none
    | _ => none) else none
  | .alt i (.bptr m p t' :: l) => match ob m, toD C ob depth (C.kd t) x with
    | some (.box tb v), some (xd, []) => if C.ksz (C.kd t) = 1 then (storeAlt C m tb t i xd (.bptr m p t' :: l) 0 v).map fun v' => [(m, .box tb v')] else none
    | _, _ => none
  | _ => none

def idxAddr (C : Ctx) (ob : Obs) (t : Nat) (x : SV) (i : Ex) : Option (List Ex × SV) :=
  match x with
  | .dat (.slice e) c => if C.kd t = .slice e then some ([.bin .inb (.un .len c) i], .dat (.ptr e) (.un .mkptr (.bin .idx c i))) else none
  | .sli m ver e => if C.kd t = .slice e then (match ob m with
    | some (.arr e' c ver') | some (.farr e' c ver') | some (.narr e' _ c ver' _ _) => if ver = ver' ∧ e = e' then some ([.bin .inb (.un .len c) i], .eptr m ver i [] e) else none
    | _ => none) else none
  | .dat (.ptr ta) (.un .mkptr c) => if C.kd t = .arr ta then (match C.arrOf ta with
    | some (n, e) => if 2 ≤ n then some ([.bin .inb (.int n) i], .dat (.ptr e) (.un .mkptr (.bin .aidx c i))) else none
    | none => none) else none
  | .tab e l => if C.kd t = .slice e then some ([.bin .inb (.int l.length) i], .tptr e i l) else none
  | .nils e => if C.kd t = .slice e then some ([.bool false], .dat (.ptr e) (.un .mkptr .nil)) else none
  | _ => none

def partsOf (ev : Operand → Option SV) : List (Nat × Operand) → Option (List (Nat × SV))
  | [] => some []
  | (i, x) :: l => match ev x, partsOf ev l with
    | some v, some r => some ((i, v) :: r)
    | _, _ => none
def svAt (l : List (Nat × SV)) (i : Nat) : Option SV := look l i
/-- The elements of a row. -/
def elems (C : Ctx) (ob : Obs) (e : Nat) (ps : List (Nat × SV)) : Nat → Nat → Option (List Ex × List Nat)
  | 0, _ => some ([], [])
  | n + 1, i =>
    match (match look ps i with
      | some v => toD C ob depth (C.kd e) v
      | none => (C.zero e).map fun z => (z, [])), elems C ob e ps n (i + 1) with
    | some (x, a), some (l, b) => some (x :: l, a ++ b)
    | _, _ => none
def buildV (C : Ctx) (t : Nat) (ps : List (Nat × SV)) : Option SV :=
  match C.fields t, C.zeroV t with
  | some fs, some (.agg _ l) =>
    if nodupB (ps.map (·.1)) && ps.all (fun p => match fs[p.1]? with
      | some ft => kindOK C (C.kd ft) (typ C (C.kd ft) p.2)
      | none => false) then
      some (.agg t (setAt l (ps.map fun p => (p.1, match fs[p.1]? with
        | some ft => typ C (C.kd ft) p.2
        | none => p.2))))
    else none
  | _, _ => none

/-- What the elements of a field are that is a slice. -/
def Ctx.rowOf (C : Ctx) (e f : Nat) : Option Nat :=
  match C.fields e with
  | some fs => match fs[f]? with
    | some tf => match C.kd tf with
      | .slice x => some x
      | _ => none
    | none => none
  | none => none
def appC (c x : Ex) : Ex :=
  match x with
  | .bin .cons a .lnil => .bin .snoc c a
  | x => .bin .app c x
/-- What is appended. -/
def srcOf (C : Ctx) (ob : Obs) (e : Nat) : SV → Option Ex
  | .sli m ver e' => match ob m with
    | some (.arr e'' c ver') | some (.farr e'' c ver') => if ver = ver' ∧ e = e' ∧ e = e'' then some c else none
    | _ => none
  | .dat k x => if k = .slice e then some x else none
  | .nils e' => if e = e' then some .lnil else none
  | .nil0 => some .lnil
  | _ => none
def appV (C : Ctx) (ob : Obs) (dst : Nat) (t : Nat) (s x : SV) : Option Res :=
  match C.kd t with
  | .slice e => if (C.zeroV e).isSome then (match srcOf C ob e x with
    | none => none
    | some cx => match typ C (.slice e) s with
      | .nils e' => if e = e' then some { pre := [.chk (.bin (.fits maxN) (.int 0) (.un .len cx))], v := .sli (8 * dst) 0 e, up := [(8 * dst, .arr e cx 0)], nw := [8 * dst] } else none
      | .sli m ver e' => match ob m with
        | some (.arr e'' c ver') =>
          if ver = ver' ∧ e = e' ∧ e = e'' then some { pre := [.chk (.bin (.fits maxN) (.un .len c) (.un .len cx))], v := .sli m (ver + 1) e, up := [(m, .arr e (appC c cx) (ver + 1))] } else none
        | _ => none
      | .nrow m rv i e' => match ob m with
        | some (.narr ea f c ver rv' none) =>
          if rv = rv' ∧ e = e' ∧ C.rowOf ea f = some e then some { pre := [.chk (.bin (.fits maxN) (.un .len (fldE (.bin .idx c i) f)) (.un .len cx))], v := .nrow m (rv + 1) i e, up := [(m, .narr ea f c ver (rv + 1) (some (i, appC (fldE (.bin .idx c i) f) cx)))] } else none
        | _ => none
      | _ => none) else none
  | _ => none

def pickV (ec : Ex) (a b : SV) : Option SV :=
  match ec with
  | .bool true => some a
  | .bool false => some b
  | ec => match a, b with
    | .dat k x, .dat k' y =>
      if k = k' then
        (if k = .bool ∧ x = .bool true then some (.dat k (.bin .or ec y))
        else if k = .bool ∧ y = .bool false then some (.dat k (.bin .and ec x))
        else some (.dat k (.tri .ite ec x y)))
      else none
    | _, _ => none

def exI : SV → Option Ex
  | .dat (.int .i64) e => some e
  | _ => none
def exIs (ev : Operand → Option SV) : List Operand → Option (List SV)
  | [] => some []
  | x :: l => match ev x, exIs ev l with
    | some v, some r => some (v :: r)
    | _, _ => none
def intsOf (k : IntKind) : List SV → Option (List Ex)
  | [] => some []
  | .dat k' e :: l => if k' = .int k then (intsOf k l).map (e :: ·) else none
  | _ :: _ => none
def pures (l : List Ex) (v : SV) : Option Res := some { pre := l.map .chk, v, up := [] }
def Ex.size : Ex → Nat
  | .un _ a => a.size + 1
  | .bin _ a b => a.size + b.size + 1
  | .tri _ a b c => a.size + b.size + c.size + 1
  | .fn _ a b => a.size + b.size + 1
  | _ => 1

/-- Rows whose elements have rows of their own: by the variable they are put into. -/
def Ctx.nestOf (C : Ctx) (d e : Nat) : Option Nat :=
  match look C.nest d with
  | some (e', f) => if e = e' then (match C.fields e, C.zeroV e with
    | some fs, some (.agg t l) => (match fs[f]?, l[f]? with
      | some tf, some (.nils x) => if C.kd tf = .slice x ∧ t = e then some f else none
      | _, _ => none)
    | _, _ => none) else none
  | none => none
/-- One operation. 'ev': what is known of an operand (under a further condition); 'n': how many values are named so far. -/
def eff (C : Ctx) (ob : Obs) (n : Nat) (o : Oper) (ev : PC → Operand → Option SV) : Option Res :=
  let d := o.dst.getD 0
  match o.op with
  | .move x | .assign x => match ev [] x with
    | some v => pures [] (typ C (C.kd o.type) v)
    | none => none
  | .pick c a b => match ev [] c with
    | some (.dat .bool ec) => match ev [(ec, true)] a, ev [(ec, false)] b with
      | some x, some y => match pickV ec x y with
        | some v => pures [] v
        | none => none
      | _, _ => none
    | _ => none
  | .alloc t => match C.zeroV t with
    | some z => some { pre := [], v := .bptr (8 * d) [] t, up := [(8 * d, .box t z)], nw := [8 * d] }
    | none => none
  | .box t x => match ev [] x with
    | some v =>
      let v' := typ C (C.kd t) v
      if kindOK C (C.kd t) v' && inTab C t then some { pre := [], v := .bptr (8 * d) [] t, up := [(8 * d, .box t v')], nw := [8 * d] } else none
    | none => none
  | .build t ps => match partsOf (ev []) ps.toList with
    | some l => match C.kd t with
      | .struct _ => match buildV C t l with
        | some v => pures [] v
        | none => none
      | .arr t' => match C.arrOf t' with
        | some (m, e) => if nodupB (l.map (·.1)) && l.all (fun p => decide (p.1 < m)) && (List.range m).all (fun i => (look l i).isSome) && (C.zero t).isSome && decide (t' = t) then (match elems C ob e l m 0 with
          | some (es, ns) => match frzs C ob ns ns with
            | some fs => some { pre := [], v := .dat (.arr t') (.un .mkagg (exList es)), up := fs }
            | none => none
          | none => none) else none
        | none => none
      | _ => none
    | none => none
  | .buildSlice t len ps => match partsOf (ev []) ps.toList, C.kd t with
    | some l, .slice e => if isTab C e len l then (match tabOf l len 0 with
      | some vs => pures [] (.tab e vs)
      | none => none) else if nodupB (l.map (·.1)) && l.all (fun p => decide (p.1 < len)) && decide (len * C.tsz e ≤ 65536) && (C.zero e).isSome then (match elems C ob e l len 0 with
      | some (es, ns) => match frzs C ob ns ns with
        | some fs =>
          some { pre := [], v := .sli (8 * d) 0 e, up := (8 * d, .arr e (exList es) 0) :: fs, nw := [8 * d] }
        | none => none
      | none => none) else none
    | _, _ => none
  | .load t a => match ev [] a with
    | some v => match loadV C ob t v with
      | some x => pures [] x
      | none => none
    | none => none
  | .store t a x => match ev [] a, ev [] x with
    | some p, some v => match storeV C ob t p v with
      | some u => some { pre := [], v := .junk, up := u }
      | none => none
    | _, _ => none
  | .nilCheck x => match ev [] x with
    | some (.bptr m p t) => pures [] (.bptr m p t)
    | some (.eptr m v i p t) => pures [] (.eptr m v i p t)
    | some (.dat (.ptr t) e) => pures [.un .isptr e] (.dat (.ptr t) (.un .mkptr (deref e)))
    | some (.fnc f a b) => pures [] (.fnc f a b)
    | some (.alt i l) => if isFncs l || isBptrs l then pures [] (.alt i l) else none
    | some (.dat (.func t) e) => pures [] (.dat (.func t) e)
    | _ => none
  | .binOp op t x y _ => match ev [] x, ev [] y with
    | some a, some b => match binV C ob op t a b with
      | some (l, v) => pures l v
      | none => none
    | _, _ => none
  | .unOp op _ x => match op, ev [] x with
    | .not, some (.dat .bool e) => pures [] (.dat .bool (.un .not e))
    | .neg, some (.dat (.int k) e) => pures [] (.dat (.int k) (.un (.neg k) e))
    | _, _ => none
  | .convert src dst x => match ev [] x, C.kd src, C.kd dst with
    | some (.dat (.int _) e), .int _, .int k => pures [] (.dat (.int k) (.un (.conv k) e))
    | _, _, _ => none
  | .makeFunc (.func f) first captured => match exIs (ev []) first.toList, exIs (ev []) captured.toList with
    | some a, some b => pures [] (.fnc f a b)
    | _, _ => none
  | .slice t x lo hi none =>
    match ev [] x, lo.map (fun y => (ev [] y).bind exI), hi.map (fun y => (ev [] y).bind exI) with
    | some v, l, h =>
      if l = some none ∨ h = some none then none else
      match sliceV C ob t v (l.bind id) (h.bind id) with
      | some (c, r, ns) => match frzs C ob ns ns with
        | some fs => some { pre := c.map .chk, v := r, up := fs }
        | none => none
      | none => none
    | _, _, _ => none
  | .fieldAddr s x i => match ev [] x with
    | some v => match fieldSV C s i v with
      | some r => pures [] r
      | none => none
    | none => none
  | .field t x i => match ev [] x with
    | some v => match parts C t v with
      | some l => match l[i]? with
        | some r => pures [] r
        | none => none
      | none => none
    | none => none
  | .indexAddr t x i => match ev [] x, (ev [] i).bind exI with
    | some v, some e => match idxAddr C ob t v e with
      | some (c, r) => pures c r
      | none => none
    | _, _ => none
  | .index t x i => match ev [] x, (ev [] i).bind exI with
    | some (.dat .str s), some e => if C.kd t = .str then pures [.bin .inb (.un .slen s) e] (.dat (.int .u8) (.bin .sidx s e)) else none
    | _, _ => none
  | .extract x i => match ev [] x with
    | some (.tup l) => match l[i]? with
      | some v => pures [] v
      | none => none
    | _ => none
  | .makeSlice t l c => match C.kd t, (ev [] l).bind exI, (ev [] c).bind exI with
    | .slice e, some a, some b => match C.zero e with
      | some z => match C.nestOf d e with
        | some f => some { pre := [.chk (.bin (.ble maxN) a b)], v := .sli (8 * d) 0 e, up := [(8 * d, .narr e f (.bin .rep a z) 0 1 none)], nw := [8 * d] }
        | none => some { pre := [.chk (.bin (.ble maxN) a b)], v := .sli (8 * d) 0 e, up := [(8 * d, .arr e (.bin .rep a z) 0)], nw := [8 * d] }
      | none => none
    | _, _, _ => none
  | .call c => match exIs (ev []) c.args.toList with
    | none => none
    | some args => match c.callee with
      | .value f => match ev [] f with
        | some (.fnc g first cap) => callF C ob n d o.dst.isNone g (first ++ args ++ cap)
        | some (.dat (.func t) e) => callV C ob n d o.dst.isNone t e args
        | some (.alt i l) => callA C ob n d o.dst.isNone i l args
        | _ => none
      | .builtin .len => match args, c.argTypes.toList with
        | [v], [t] => match C.kd t with
          | .str => match v with
            | .dat .str e => pures [] (.dat (.int .i64) (.un .slen e))
            | _ => none
          | .slice _ => match lenOf C ob v with
            | some e => pures [] (.dat (.int .i64) e)
            | none => none
          | _ => none
        | _, _ => none
      | .builtin .append => match args, c.argTypes.toList with
        | [s, x], [t, t'] => if t = t' then appV C ob d t s x else none
        | _, _ => none
      | .builtin .max => match args with
        | .dat (.int k) a :: l => match intsOf k (.dat (.int k) a :: l) with
          | some es => (mmV .imax es).bind fun e => pures [] (.dat (.int k) e)
          | none => none
        | _ => none
      | .builtin .min => match args with
        | .dat (.int k) a :: l => match intsOf k (.dat (.int k) a :: l) with
          | some es => (mmV .imin es).bind fun e => pures [] (.dat (.int k) e)
          | none => none
        | _ => none
      | _ => none
  | _ => none

/-! ### Regions -/
/-- What is known of an operand, where the conditions pc hold. -/
def opv (C : Ctx) (s : S) (pc more : PC) : Operand → Option SV
  | .tmp t => match look s.sl t with
    | some (.gd q v) => if subPC q (more ++ pc) then some v else none
    | r => r
  | .const v => match v with
    | .int k n => if k.min ≤ n ∧ n ≤ k.max then some (.dat (.int k) (.int n)) else none
    | .bool b => some (.dat .bool (.bool b))
    | .string b => if b.data.toList.length ≤ 1048576 then some (.dat .str (.str b.data.toList)) else none
    | .slice none 0 0 => some .nil0
    | .pointer none => some .nilp
    | _ => none
  | .global g => (C.gk g).map fun t => .dat (.ptr t) (.un .mkptr (.un .deref (.glob g)))
  | .func f => some (.fnc f [] [])

def guardPC (ops : List Oper) (s : S) : Option (Nat × Bool) → Option (Option PC)
  | none => some (some [])
  | some (j, want) => match ops[j]? with
    | none => none
    | some o => match o.dst with
      | none => none
      | some t => match look s.sl t with
        | some (.dat .bool (.bool b)) => if b = want then some (some []) else some none
        | some (.dat .bool e) => some (some [(e, want)])
        | some (.gd pc (.dat .bool (.bool b))) => if b = want then some (some pc) else some none
        | some (.gd pc (.dat .bool e)) => some (some (pc ++ [(e, want)]))
        | _ => none

/-- The objects that are there where the conditions pc hold. -/
def obsOf (s : S) (pc : PC) : Obs := fun m =>
  match look s.ob m with
  | some (q, o) => if subPC q pc then some o else none
  | none => none
/-- May the objects be written so? -/
def upOK (s : S) (pc : PC) : Nat × Ob → Bool
  | (m, o) => match look s.ob m, o with
    | none, .arr _ _ ver => decide (ver = 0) && slFree m s.sl && obFree m s.ob
    | none, .box _ v => slFree m s.sl && obFree m s.ob && v.free m
    | none, .narr _ _ _ ver rv _ => decide (ver = 0) && decide (rv = 1) && slFree m s.sl && obFree m s.ob
    | some (q, .narr _ _ _ ver rv _), .narr _ _ _ ver' rv' _ => subPC q pc && subPC pc q && (decide (ver' = ver) && decide (ver ≠ rv + 1) && (decide (rv' = rv) || (decide (rv' = rv + 1) && slFreeV m rv' s.sl && obFreeV m rv' s.ob)))
    | some (q, .narr _ _ _ ver _ _), .farr _ _ ver' => subPC q pc && subPC pc q && decide (ver = ver')
    | some (q, .arr _ _ ver), .arr _ _ ver' => subPC q pc && subPC pc q && (decide (ver' = ver) || (decide (ver' = ver + 1) && slFreeV m ver' s.sl && obFreeV m ver' s.ob))
    | some (q, .arr _ _ ver), .farr _ _ ver' => subPC q pc && subPC pc q && decide (ver = ver')
    | some (q, .box _ _), .box _ _ => subPC q pc && subPC pc q
    | some (q, .box _ _), .fbox _ _ => subPC q pc && subPC pc q
    | _, _ => false
def scs (n : Nat) : List Ex → Bool
  | [] => true
  | e :: l => e.sc n && scs n l
def isChk (n : Nat) : Pre → Bool
  | .chk e => e.sc n
  | _ => false
/-- Checks alone; or one call, whose operands speak of what is named already. -/
def preSc (n : Nat) : List Pre → Bool
  | [.call _ _ args] => scs n args
  | [.callv _ fe args] => fe.sc n && scs n args
  | l => l.all (isChk n)
def preN : List Pre → Nat
  | [] => 0
  | .chk _ :: l => preN l
  | .call m _ _ :: l => m + preN l
  | .callv m _ _ :: l => m + preN l

structure Step where
  o : Oper
  pc : PC
  r : Res
  dead : Bool
  vis : List Nat
  news : List Nat
  bumps : List (Nat × Nat)

def gdV (pc : PC) (v : SV) : SV := if pc.isEmpty then v else .gd pc v
def putSl (l : List (Nat × SV)) (dst : Option Nat) (v : SV) : List (Nat × SV) :=
  match dst with
  | some d => (d, v) :: l
  | none => l
def putOb (pc : PC) (up : List (Nat × Ob)) (ob : List (Nat × PC × Ob)) : List (Nat × PC × Ob) := up.map (fun x => (x.1, pc, x.2)) ++ ob
def dstOK (s : S) (dst : Option Nat) : Bool :=
  match dst with
  | some d => decide (d < s.nt)
  | none => true
def stepS (s : S) (o : Oper) (pc : PC) (r : Res) : Option S :=
  let m := preN r.pre
  if dstOK s o.dst && r.up.all (upOK s pc) && r.nw.all (fun m => (look s.ob m).isNone) && nodupB (r.up.map (·.1)) && r.nw.all (fun x => (r.up.map (·.1)).contains x) && preSc s.n r.pre && pcSc s.n pc && (decide (m = 0) || s.sc) then
    some { s with n := s.n + m, sl := putSl s.sl o.dst (gdV pc r.v), ob := putOb pc r.up s.ob }
  else none
def mkStep (s : S) (o : Oper) (pc : PC) (r : Res) (vis : List Nat) : Step :=
  { o, pc, r, dead := false, vis,
    news := (r.up.filter fun x => (look s.ob x.1).isNone).map (·.1)
    bumps := r.up.filterMap fun x => match look s.ob x.1, x.2 with
      | some (_, .arr _ _ v), .arr _ _ v' => if v = v' then none else some (x.1, v')
      | some (_, .narr _ _ _ _ v _), .narr _ _ _ _ v' _ => if v = v' then none else some (x.1, v')
      | _, _ => none }
def hide (hid : List Nat) (ob : Obs) : Obs := fun m => if hid.contains m then none else ob m
def noObs : Obs := fun _ => none
def readsOf (ops : List Oper) (o : Oper) : List Nat :=
  (o.op.operands.toList.filterMap fun | .tmp t => some t | _ => none) ++
  (match o.guard with
    | some (g, _) => match ops[g]? with
      | some x => x.dst.toList
      | none => []
    | none => [])
/-- What is known of some variables alone. -/
def onlyOf (rs : List Nat) (ev : PC → Operand → Option SV) : PC → Operand → Option SV := fun more x => match x with
  | .tmp t => if rs.contains t then ev more x else none
  | _ => ev more x
/-- The operations in the order of the text. 'hids': for each what it may not count on; 'draw': is the order open? -/
def regSteps (C : Ctx) (draw : Bool) (ops : List Oper) (hidOf : List Step → Nat → List Nat) : List Oper → List Step → S → Option (List Step × S)
  | [], acc, s => some (acc, s)
  | o :: rest, acc, s => match guardPC ops s o.guard with
    | none => none
    | some none => if dstOK s o.dst then
        regSteps C draw ops hidOf rest (acc ++ [⟨o, [], ⟨[], .junk, [], []⟩, true, [], [], []⟩]) { s with sl := putSl s.sl o.dst .junk }
      else none
    | some (some pc) =>
      let ev := if draw then onlyOf (readsOf ops o) (opv C s pc) else opv C s pc
      let full := match eff C (if draw then hide (hidOf acc acc.length) (obsOf s pc) else obsOf s pc) s.n o ev with
        | some r => some (r, false)
        | none => none
      match (if draw then (match eff C noObs s.n o ev with
        | some r => some (r, true)
        | none => full) else full) with
      | none => none
      | some (r, p) => match stepS s o pc r with
        | none => none
        | some s1 => regSteps C draw ops hidOf rest (acc ++ [mkStep s o pc r (if p then [] else (s.ob.map (·.1)).filter fun m => !(hidOf acc acc.length).contains m)]) s1

/-! ### Where the order is open -/
/-- For each operation the set of those that come ahead of it in every order. -/
def masks : List Oper → List Nat → List Nat
  | [], acc => acc
  | o :: l, acc => masks l (acc ++ [o.after.toList.foldl (fun s e => if Region.binds .any e && decide (e.on < acc.length) then s ||| 2 ^ e.on ||| acc.getD e.on 0 else s) 0])
def apartB (ops : List Oper) (x y : Oper) : Bool :=
  (match x.dst with
    | some d => !(readsOf ops y).contains d && decide (y.dst ≠ some d)
    | none => true) &&
  (match y.dst with
    | some d => !(readsOf ops x).contains d
    | none => true)
def namesUp (l : List (Nat × Ob)) : List Nat := l.map (·.1)
def upFrees (m : Nat) : List (Nat × Ob) → Bool
  | [] => true
  | (i, o) :: l => decide (i ≠ m) && o.free m && upFrees m l
def upFreeVs (m ver : Nat) : List (Nat × Ob) → Bool
  | [] => true
  | (_, o) :: l => o.freeV m ver && upFreeVs m ver l
/-- What step x makes anew or renews is not named by step y. -/
def strange (x y : Step) : Bool :=
  (x.news.all fun m => y.r.v.free m && upFrees m y.r.up) && (x.bumps.all fun u => y.r.v.freeV u.1 u.2 && upFreeVs u.1 u.2 y.r.up)
/-- Two steps of which neither comes ahead of the other in every order. -/
def freeTwo (ops : List Oper) (x y : Step) : Bool :=
  apartB ops x.o y.o && (x.r.up.all fun u => !(namesUp y.r.up).contains u.1 && !y.vis.contains u.1) && (y.r.up.all fun u => !x.vis.contains u.1) && strange x y && strange y x
def freeAll (ops : List Oper) (ms : List Nat) (y : Step) (j : Nat) : List Step → Nat → Bool
  | [], _ => true
  | x :: l, i => (decide (j ≤ i) || (ms.getD j 0).testBit i || freeTwo ops x y) && freeAll ops ms y j l (i + 1)
def drawOK (ops : List Oper) (ms : List Nat) (all : List Step) : List Step → Nat → Bool
  | [], _ => true
  | y :: l, j => freeAll ops ms y j all 0 && drawOK ops ms all l (j + 1)
/-- What may not be counted on at place j. -/
def hidden (ms : List Nat) (acc : List Step) (j : Nat) : List Nat :=
  (acc.zipIdx.filter fun x => !(ms.getD j 0).testBit x.2).flatMap fun x => namesUp x.1.r.up
/-- Does each operation come behind those that it waits for? -/
def edgesOK : List Oper → Nat → Bool
  | [], _ => true
  | o :: l, i => o.after.toList.all (fun e => !Region.binds .any e || decide (e.on < i)) && edgesOK l (i + 1)
def noSel (l : List Oper) : Bool := l.all fun o => match o.op with | .select _ _ => false | _ => true
def region (C : Ctx) (draw : Bool) (ops : List Oper) (s : S) : Option (List Step × S) :=
  if draw then
    let ms := masks ops []
    match regSteps C true ops (hidden ms) ops [] s with
    | some (l, s') => if drawOK ops ms l l 0 && noSel ops && edgesOK ops 0 && s.sc then some (l, s') else none
    | none => none
  else regSteps C false ops (fun _ _ => []) ops [] s

def imp : PC → Ex → Ex
  | [], e => e
  | (c, true) :: l, e => .tri .ite c (imp l e) (.bool true)
  | (c, false) :: l, e => .tri .ite c (.bool true) (imp l e)
def wrapPre (pc : PC) : List Pre → IL → IL
  | [], k => k
  | .chk e :: l, k => .chk (imp pc e) (wrapPre pc l k)
  | .call m f args :: l, k => .call pc m f args (wrapPre pc l k)
  | .callv m fe args :: l, k => .callv pc m fe args (wrapPre pc l k)
def wrapSteps : List Step → IL → IL
  | [], k => k
  | st :: l, k => wrapPre st.pc st.r.pre (wrapSteps l k)

/-! ### Where ways meet -/
/-- What is known where ways meet: its expressions are either named afresh, one after the other, or stay. -/
structure Tm where
  sl : List (Nat × SV)
  ob : List (Nat × Ob)
abbrev Hints := List (Nat × List (Nat × Tm))

def matchE (n : Nat) (p e : Ex) (acc : List Ex) : Option (List Ex) :=
  if p = .var (n + acc.length) then some (acc ++ [e])
  else if p = e ∧ e.sc n = true then some acc else none
mutual
/-- Does a template fit a kind, cell by cell? -/
def fitsK (C : Ctx) : K → SV → Bool
  | k, .dat k' _ => decide (k' = k)
  | k, .nils e => decide (k = .slice e)
  | k, .sli _ _ e => decide (k = .slice e)
  | k, .bptr _ _ t => decide (k = .ptr t)
  | k, .agg t l => decide (k = .struct t) && (match C.fields t with
    | some fs => fitsKs C fs l
    | none => false)
  | _, _ => false
def fitsKs (C : Ctx) : List Nat → List SV → Bool
  | [], [] => true
  | t :: ts, v :: l => fitsK C (C.kd t) v && fitsKs C ts l
  | _, _ => false
end
mutual
def matchV (C : Ctx) (n0 : Nat) (s : S) (ob' : Obs) : SV → SV → List Ex → Option (List Ex)
  | .dat k p, v, acc => match toD C (obsOf s []) depth k v with
    | some (e, []) => matchE n0 p e acc
    | _ => none
  | .nils e, .nils e', acc => if e = e' then some acc else none
  | .sli m ver e, .sli m' ver' e', acc => if m = m' ∧ ver = 0 ∧ e = e' then (match obsOf s [] m, ob' m with
    | some (.arr _ _ v), some (.arr _ _ v') => if ver' = v ∧ v' = 0 then some acc else none
    | some (.narr _ _ _ v _ _), some (.narr _ _ _ v' _ _) => if ver' = v ∧ v' = 0 then some acc else none
    | _, _ => none) else none
  | .sli m ver e, .nils e', acc => if ver = 0 ∧ e = e' then (match obsOf s [] m, ob' m with
    | none, some (.arr e'' _ v') => if v' = 0 ∧ e = e'' ∧ (look s.ob m).isNone = true then some acc else none
    | _, _ => none) else none
  | .bptr m p t, .bptr m' p' t', acc => if m = m' ∧ p = p' ∧ t = t' then some acc else none
  | .agg t ps, v, acc => match parts C t v, C.fields t with
    | some l, some fs => if fitsKs C fs ps then matchVs C n0 s ob' ps l acc else none
    | _, _ => none
  | .fnc f a b, .fnc f' a' b', acc => if f = f' then (match matchVs C n0 s ob' a a' acc with
    | some acc' => matchVs C n0 s ob' b b' acc'
    | none => none) else none
  | .tab e ps, .tab e' l, acc => if e = e' then matchVs C n0 s ob' ps l acc else none
  | .junk, _, acc => some acc
  | _, _, _ => none
def matchVs (C : Ctx) (n0 : Nat) (s : S) (ob' : Obs) : List SV → List SV → List Ex → Option (List Ex)
  | [], [], acc => some acc
  | p :: ps, v :: vs, acc => match matchV C n0 s ob' p v acc with
    | some acc' => matchVs C n0 s ob' ps vs acc'
    | none => none
  | _, _, _ => none
end
def matchSl (C : Ctx) (n0 : Nat) (s : S) (ob' : Obs) : List (Nat × SV) → List Ex → Option (List Ex)
  | [], acc => some acc
  | (t, p) :: l, acc => match look s.sl t with
    | some v => match matchV C n0 s ob' p v acc with
      | some acc' => matchSl C n0 s ob' l acc'
      | none => none
    | none => none
def matchO (C : Ctx) (n0 : Nat) (s : S) (ob' : Obs) (m : Nat) : Ob → Option Ob → List Ex → Option (List Ex)
  | .box t p, some (.box t' v), acc => if t = t' ∧ fitsK C (C.kd t) p = true then matchV C n0 s ob' p v acc else none
  | .arr e p ver, some (.arr e' c _), acc => if e = e' ∧ ver = 0 then matchE n0 p c acc else none
  | .narr e f p ver rv none, some (.narr e' f' c _ _ none), acc => if e = e' ∧ f = f' ∧ ver = 0 ∧ rv = 1 then matchE n0 p c acc else none
  | .arr e p ver, none, acc => if ver = 0 ∧ inTab C e = true ∧ slFree m s.sl = true ∧ obFree m s.ob = true then matchE n0 p .lnil acc else none
  | _, _, _ => none
def matchOb (C : Ctx) (n0 : Nat) (s : S) (ob' : Obs) : List (Nat × Ob) → List Ex → Option (List Ex)
  | [], acc => some acc
  | (m, o) :: l, acc => match matchO C n0 s ob' m o ((look s.ob m).map fun x => if x.1.isEmpty then x.2 else .fbox 0 .nil) acc with
    | some acc' => matchOb C n0 s ob' l acc'
    | none => none
def matchT (C : Ctx) (n0 : Nat) (s : S) (tm : Tm) : Option (List Ex) :=
  if nodupB (tm.sl.map (·.1)) && nodupB (tm.ob.map (·.1)) then
    (match matchSl C n0 s (look tm.ob) tm.sl [] with
    | some acc => matchOb C n0 s (look tm.ob) tm.ob acc
    | none => none)
  else none
def ofT (s : S) (tm : Tm) (m : Nat) : S := { n := s.n + m, nt := s.nt, sl := tm.sl, ob := putOb [] tm.ob [] }

/-! ### Bodies -/
def firstReg : Code → Option Nat
  | .region id _ _ => some id
  | .seq a b => match firstReg a with
    | some i => some i
    | none => firstReg b
  | .cond _ a b => match firstReg a with
    | some i => some i
    | none => firstReg b
  | .block _ b | .loop b | .scope b => firstReg b
  | _ => none

/-- How many values a template names afresh: told in the hints, checked where ways come in. -/
structure Fn where
  results : List ResultVar
  kinds : List K
  own : List Bool
  hints : List (Nat × List (Nat × Tm × Nat))

def ownV (s : S) (k : K) (v : SV) : Option (Ex × List Nat) :=
  match k, v with
  | .slice e, .sli m ver e' => match look s.ob m with
    | some (q, .arr e'' c ver') => if ver = ver' ∧ e = e' ∧ e = e'' ∧ q.isEmpty = true then some (c, [m]) else none
    | _ => none
  | .slice e, .nils e' => if e = e' then some (.lnil, []) else none
  | _, _ => none
def resX (C : Ctx) (s : S) : List ResultVar → List K → List Bool → Option (List Ex × List Nat)
  | [], [], _ => some ([], [])
  | r :: rs, k :: ks, own =>
    match (match r with
      | .tmp t => look s.sl t
      | .cell a ty => match look s.sl a with
        | some v => loadV C (obsOf s []) ty v
        | none => none), resX C s rs ks own.tail with
    | some v, some (es, ns) =>
      if own.headD false then (match ownV s k v with
        | some (e, m) => if m.all (fun x => !ns.contains x) then some (e :: es, m ++ ns) else none
        | none => none)
      else (match toD C (obsOf s []) depth k v with
        | some (e, m) => some (e :: es, m ++ ns)
        | none => none)
    | _, _ => none
  | _, _, _ => none
/-- The results, and that what is one's own is nowhere else. -/
def retIL (C : Ctx) (fn : Fn) (s : S) : Option IL :=
  match resX C s fn.results fn.kinds fn.own with
  | some (es, ns) => if (fn.own.all (· == false) || nodupB ns) && mutAll (obsOf s []) ns then some (.out 2 es) else none
  | none => none

/-- An exit's number: 1: at the end; 2: a return; 3 + id: out of block id. Where ways meet, in the text, each join has numbers of its own. -/
def tagOf (key t : Nat) : Nat := 3 + key * 65536 + t
def outT (C : Ctx) (key n0 : Nat) (s : S) (ex : List (Nat × Tm × Nat)) (t : Nat) : Option IL :=
  match look ex t with
  | some (tm, m) => match matchT C n0 s tm with
    | some vs => if vs.length = m then some (.out (tagOf key t) vs) else none
    | none => none
  | none => none
/-- Does a text never come out by one of these numbers? -/
def noOut (ts : List Nat) : IL → Bool
  | .chk _ k | .lete _ k | .call _ _ _ _ k | .callv _ _ _ _ k => noOut ts k
  | .ite _ a b => noOut ts a && noOut ts b
  | .out t _ => !ts.contains t
  | .bindc a _ _ k => noOut ts a && noOut ts k
  | .loop _ b => noOut ts b
  | .both a b => noOut ts a && noOut ts b
/-- Behind a piece that ways leave: each goes on. -/
def armsT (s : S) (key : Nat) (ts : List Nat) (κ : Nat → S → Option IL) : List (Nat × Tm × Nat) → IL → Option IL
  | [], il => some il
  | (t, tm, m) :: l, il => match κ t (ofT s tm m) with
    | some k => if noOut ts k then armsT s key ts κ l (.bindc il (tagOf key t) m k) else none
    | none => none

def decomp (C : Ctx) (fn : Fn) : Code → S → (Nat → S → Option IL) → Option IL
  | .skip, s, κ => κ 1 s
  | .region _ ops draw, s, κ =>
    match region C draw ops.toList s with
    | some (l, s') => (κ 1 s').map (wrapSteps l)
    | none => none
  | .seq a b, s, κ =>
    match (firstReg b).bind fun i => (look fn.hints (2 * i)).map fun ex => (2 * i, ex) with
    | none => decomp C fn a s fun t s' => if t = 1 then decomp C fn b s' κ else κ t s'
    | some (key, ex) => match decomp C fn a s (fun t s' => outT C key s.n s' ex t) with
      | some il => armsT s key (ex.map fun x => tagOf key x.1) (fun t s' => if t = 1 then decomp C fn b s' κ else κ t s') ex il
      | none => none
  | .cond c a b, s, κ => match opv C s [] [] c with
    | some (.dat .bool (.bool v)) => if v then decomp C fn a s κ else decomp C fn b s κ
    | some (.dat .bool e) => match decomp C fn a s κ, decomp C fn b s κ with
      | some x, some y => some (.ite e x y)
      | _, _ => none
    | some (.nilq e) => match decomp C fn a s κ, decomp C fn b s κ with
      | some x, some y => some (.ite (.bin .ieq (.un .len e) (.int 0)) (.both x y) y)
      | _, _ => none
    | _ => none
  | .block id b, s, κ => decomp C fn b s fun t s' => if t = 3 + id then κ 1 s' else κ t s'
  | .scope b, s, κ => decomp C fn b s κ
  | .exit id, s, κ => κ (3 + id) s
  | .ret, s, _ => retIL C fn s
  | .loop b, s, κ => match (firstReg b).bind fun i => (look fn.hints (2 * i + 1)).map fun ex => (2 * i + 1, ex) with
    | some (key, (_, tm, m) :: ex) => match matchT C s.n s tm with
      | some vs => if vs.length = m then
          match decomp C fn b (ofT s tm m) (fun t s' => if t = 1 then (match matchT C s.n s' tm with
            | some ws => if ws.length = m then some (.out 0 ws) else none
            | none => none) else outT C key s.n s' ex t) with
          | some ib => armsT s key (ex.map fun x => tagOf key x.1) κ ex (.loop vs ib)
          | none => none
        else none
      | none => none
    | _ => none
  | _, _, _ => none

/-- What a function's variables are when it is entered. -/
def initSl (C : Ctx) (nfree : Nat) (total : Nat) : List K → Nat → List (Nat × SV)
  | [], _ => []
  | k :: ks, i => (i, match k with
      | .ptr t => if total ≤ i + nfree then .dat (.ptr t) (.un .mkptr (.un .deref (.var i))) else .dat k (.var i)
      | k => .dat k (.var i)) :: initSl C nfree total ks (i + 1)
/-- What is captured is no nil pointer. -/
def entryChk (nfree : Nat) (total : Nat) : List K → Nat → IL → IL
  | [], _, il => il
  | k :: ks, i, il => match k with
    | .ptr _ => if total ≤ i + nfree then .chk (.un .isptr (.var i)) (entryChk nfree total ks (i + 1) il) else entryChk nfree total ks (i + 1) il
    | _ => entryChk nfree total ks (i + 1) il
/-- The text of a function. -/
def decompF (C : Ctx) (sg : Sig) (f : Func) (hints : List (Nat × List (Nat × Tm × Nat))) : Option IL :=
  match f.body with
  | none => none
  | some c =>
    if f.params.size + f.nfree = sg.params.length ∧ sg.params.length ≤ f.ntmps ∧ sg.results.length = f.results.size then
      let fn : Fn := { results := f.results.toList, kinds := sg.results, own := sg.own, hints }
      let n := sg.params.length
      (decomp C fn c { n, nt := f.ntmps, sl := initSl C f.nfree n sg.params 0, ob := [] } fun t s => if t = 1 then retIL C fn s else none).map (entryChk f.nfree n sg.params 0)
    else none

end Sy
