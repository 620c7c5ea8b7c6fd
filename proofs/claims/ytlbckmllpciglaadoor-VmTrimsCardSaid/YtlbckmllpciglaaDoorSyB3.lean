/- Some functions' texts, and what they mean. Printed by a program of this claim's author. -/
import Derived.Test.YtlbckmllpciglaaDoorSyA
set_option linter.unusedVariables false
set_option linter.unusedSimpArgs false
set_option linter.all false
namespace Go.Proofs.YtlbckmllpciglaaDoor
open Go Sy
set_option maxRecDepth 100000
-- errata/erratalaw27.VmTrims
def h5 : List (Nat × List (Nat × Tm × Nat)) := []
def il5 : IL := (.call [] 1 6 [] (.call [] 1 7 [(.var 0), (.var 1), (.var 2)] (.call [((.un .not (.var 4)), false)] 1 8 [(.var 1), (.var 2)] (.ite (.bin .or (.un .not (.var 4)) (.un .not (.var 5))) (.out 2 [(.var 3)]) (.call [] 2 9 [(.var 0), (.var 1)] (.ite (.un .not (.bin .ieq (.var 7) (.int 0))) (.out 2 [(.var 3)]) (.call [] 1 19 [(.var 0)] (.call [] 1 20 [(.var 0)] (.call [] 2 10 [(.var 0), (.var 1), (.var 2)] (.call [] 2 10 [(.var 8), (.var 1), (.var 2)] (.call [] 2 10 [(.var 9), (.var 1), (.var 2)] (.call [((.bin .and (.bin .and (.bin .and (.var 3) (.bin .ieq (.var 11) (.int 0))) (.bin .ieq (.var 13) (.int 0))) (.bin .ieq (.var 15) (.int 0))), true)] 1 11 [(.var 10), (.var 12)] (.call [((.bin .and (.bin .and (.bin .and (.bin .and (.var 3) (.bin .ieq (.var 11) (.int 0))) (.bin .ieq (.var 13) (.int 0))) (.bin .ieq (.var 15) (.int 0))) (.var 16)), true)] 1 11 [(.var 10), (.var 14)] (.call [((.bin .and (.bin .and (.bin .and (.bin .and (.bin .and (.var 3) (.bin .ieq (.var 11) (.int 0))) (.bin .ieq (.var 13) (.int 0))) (.bin .ieq (.var 15) (.int 0))) (.var 16)) (.var 17)), true)] 1 18 [(.var 8), (.un .len (.var 2))] (.call [((.bin .and (.bin .and (.bin .and (.bin .and (.bin .and (.var 3) (.bin .ieq (.var 11) (.int 0))) (.bin .ieq (.var 13) (.int 0))) (.bin .ieq (.var 15) (.int 0))) (.var 16)) (.var 17)), true)] 1 18 [(.var 0), (.un .len (.var 2))] (.call [((.bin .and (.bin .and (.bin .and (.bin .and (.bin .and (.bin .and (.var 3) (.bin .ieq (.var 11) (.int 0))) (.bin .ieq (.var 13) (.int 0))) (.bin .ieq (.var 15) (.int 0))) (.var 16)) (.var 17)) (.bin .ile (.var 18) (.var 19))), true)] 1 18 [(.var 9), (.un .len (.var 2))] (.call [((.bin .and (.bin .and (.bin .and (.bin .and (.bin .and (.bin .and (.var 3) (.bin .ieq (.var 11) (.int 0))) (.bin .ieq (.var 13) (.int 0))) (.bin .ieq (.var 15) (.int 0))) (.var 16)) (.var 17)) (.bin .ile (.var 18) (.var 19))), true)] 1 18 [(.var 8), (.un .len (.var 2))] (.out 2 [(.bin .and (.bin .and (.bin .and (.bin .and (.bin .and (.bin .and (.bin .and (.var 3) (.bin .ieq (.var 11) (.int 0))) (.bin .ieq (.var 13) (.int 0))) (.bin .ieq (.var 15) (.int 0))) (.var 16)) (.var 17)) (.bin .ile (.var 18) (.var 19))) (.bin .ieq (.var 20) (.var 21)))]))))))))))))))))))
theorem d5 : decompF C ⟨[.struct 25, .slice 3, .slice 37], [.bool], [false]⟩ Tryd.f5 h5 = some il5 := by kernel_rfl
theorem e5 (R : Fns) (a0 a1 a2 : D) : den C.G R il5 [a0, a1, a2] =
    ((R 6 []).bind fun r0 =>
    (R 7 [a0, a1, a2]).bind fun r1 =>
    callIf (((!(D.asB (at_ r1 0))) == false) && true) (R 8 [a1, a2]) fun r2 =>
    if ((!(D.asB (at_ r1 0))) || (!(D.asB (at_ r2 0)))) then
      some (2, [(at_ r0 0)])
    else
      (R 9 [a0, a1]).bind fun r3 =>
      if (!((D.asI (at_ r3 1)) == (0 : Int))) then
        some (2, [(at_ r0 0)])
      else
        (R 19 [a0]).bind fun r4 =>
        (R 20 [a0]).bind fun r5 =>
        (R 10 [a0, a1, a2]).bind fun r6 =>
        (R 10 [(at_ r4 0), a1, a2]).bind fun r7 =>
        (R 10 [(at_ r5 0), a1, a2]).bind fun r8 =>
        callIf ((((((D.asB (at_ r0 0)) && ((D.asI (at_ r6 1)) == (0 : Int))) && ((D.asI (at_ r7 1)) == (0 : Int))) && ((D.asI (at_ r8 1)) == (0 : Int))) == true) && true) (R 11 [(at_ r6 0), (at_ r7 0)]) fun r9 =>
        callIf (((((((D.asB (at_ r0 0)) && ((D.asI (at_ r6 1)) == (0 : Int))) && ((D.asI (at_ r7 1)) == (0 : Int))) && ((D.asI (at_ r8 1)) == (0 : Int))) && (D.asB (at_ r9 0))) == true) && true) (R 11 [(at_ r6 0), (at_ r8 0)]) fun r10 =>
        callIf ((((((((D.asB (at_ r0 0)) && ((D.asI (at_ r6 1)) == (0 : Int))) && ((D.asI (at_ r7 1)) == (0 : Int))) && ((D.asI (at_ r8 1)) == (0 : Int))) && (D.asB (at_ r9 0))) && (D.asB (at_ r10 0))) == true) && true) (R 18 [(at_ r4 0), (D.int (((D.asL a2)).length : Int))]) fun r11 =>
        callIf ((((((((D.asB (at_ r0 0)) && ((D.asI (at_ r6 1)) == (0 : Int))) && ((D.asI (at_ r7 1)) == (0 : Int))) && ((D.asI (at_ r8 1)) == (0 : Int))) && (D.asB (at_ r9 0))) && (D.asB (at_ r10 0))) == true) && true) (R 18 [a0, (D.int (((D.asL a2)).length : Int))]) fun r12 =>
        callIf (((((((((D.asB (at_ r0 0)) && ((D.asI (at_ r6 1)) == (0 : Int))) && ((D.asI (at_ r7 1)) == (0 : Int))) && ((D.asI (at_ r8 1)) == (0 : Int))) && (D.asB (at_ r9 0))) && (D.asB (at_ r10 0))) && (decide ((D.asI (at_ r11 0)) ≤ (D.asI (at_ r12 0))))) == true) && true) (R 18 [(at_ r5 0), (D.int (((D.asL a2)).length : Int))]) fun r13 =>
        callIf (((((((((D.asB (at_ r0 0)) && ((D.asI (at_ r6 1)) == (0 : Int))) && ((D.asI (at_ r7 1)) == (0 : Int))) && ((D.asI (at_ r8 1)) == (0 : Int))) && (D.asB (at_ r9 0))) && (D.asB (at_ r10 0))) && (decide ((D.asI (at_ r11 0)) ≤ (D.asI (at_ r12 0))))) == true) && true) (R 18 [(at_ r4 0), (D.int (((D.asL a2)).length : Int))]) fun r14 =>
        some (2, [(D.bool ((((((((D.asB (at_ r0 0)) && ((D.asI (at_ r6 1)) == (0 : Int))) && ((D.asI (at_ r7 1)) == (0 : Int))) && ((D.asI (at_ r8 1)) == (0 : Int))) && (D.asB (at_ r9 0))) && (D.asB (at_ r10 0))) && (decide ((D.asI (at_ r11 0)) ≤ (D.asI (at_ r12 0))))) && ((D.asI (at_ r13 0)) == (D.asI (at_ r14 0)))))]) : Option Out) := by kernel_rfl
-- errata/errataref27.Same
def h15 : List (Nat × List (Nat × Tm × Nat)) := [(9, [(0, ⟨[(1, (.dat (.slice 37) (.var 1))), (0, (.dat (.slice 37) (.var 0))), (5, (.dat (.int .i64) (.var 2))), (4, (.dat (.bool) (.bool false)))], []⟩, 1), (3, ⟨[(4, (.dat (.bool) (.bool false)))], []⟩, 0)])]
def il15 : IL := (.ite (.un .not (.bin .ieq (.un .len (.var 0)) (.un .len (.var 1)))) (.out 2 [(.bool false)]) (.bindc (.loop [(.int 0)] (.ite (.bin .ilt (.var 2) (.un .len (.var 0))) (.chk (.bin .inb (.un .len (.var 0)) (.var 2)) (.chk (.bin .inb (.un .len (.var 1)) (.var 2)) (.chk (.tri .ite (.un .not (.bin .ieq (.un (.fld 0) (.bin .idx (.var 0) (.var 2))) (.un (.fld 0) (.bin .idx (.var 1) (.var 2))))) (.bool true) (.bin .inb (.un .len (.var 0)) (.var 2))) (.chk (.tri .ite (.un .not (.bin .ieq (.un (.fld 0) (.bin .idx (.var 0) (.var 2))) (.un (.fld 0) (.bin .idx (.var 1) (.var 2))))) (.bool true) (.bin .inb (.un .len (.var 1)) (.var 2))) (.chk (.tri .ite (.bin .or (.un .not (.bin .ieq (.un (.fld 0) (.bin .idx (.var 0) (.var 2))) (.un (.fld 0) (.bin .idx (.var 1) (.var 2))))) (.un .not (.bin .ieq (.un (.fld 2) (.bin .idx (.var 0) (.var 2))) (.un (.fld 2) (.bin .idx (.var 1) (.var 2)))))) (.bool true) (.bin .inb (.un .len (.var 0)) (.var 2))) (.chk (.tri .ite (.bin .or (.un .not (.bin .ieq (.un (.fld 0) (.bin .idx (.var 0) (.var 2))) (.un (.fld 0) (.bin .idx (.var 1) (.var 2))))) (.un .not (.bin .ieq (.un (.fld 2) (.bin .idx (.var 0) (.var 2))) (.un (.fld 2) (.bin .idx (.var 1) (.var 2)))))) (.bool true) (.bin .inb (.un .len (.var 1)) (.var 2))) (.call [((.bin .or (.un .not (.bin .ieq (.un (.fld 0) (.bin .idx (.var 0) (.var 2))) (.un (.fld 0) (.bin .idx (.var 1) (.var 2))))) (.un .not (.bin .ieq (.un (.fld 2) (.bin .idx (.var 0) (.var 2))) (.un (.fld 2) (.bin .idx (.var 1) (.var 2)))))), false)] 1 11 [(.un (.fld 1) (.bin .idx (.var 0) (.var 2))), (.un (.fld 1) (.bin .idx (.var 1) (.var 2)))] (.ite (.bin .or (.bin .or (.un .not (.bin .ieq (.un (.fld 0) (.bin .idx (.var 0) (.var 2))) (.un (.fld 0) (.bin .idx (.var 1) (.var 2))))) (.un .not (.bin .ieq (.un (.fld 2) (.bin .idx (.var 0) (.var 2))) (.un (.fld 2) (.bin .idx (.var 1) (.var 2)))))) (.un .not (.var 3))) (.out 2 [(.bool false)]) (.out 0 [(.bin (.add .i64) (.var 2) (.int 1))]))))))))) (.out 589830 []))) 589830 0 (.out 2 [(.bool true)])))
theorem d15 : decompF C ⟨[.slice 37, .slice 37], [.bool], [false]⟩ Tryd.f15 h15 = some il15 := by kernel_rfl
theorem e15 (R : Fns) (a0 a1 : D) : den C.G R il15 [a0, a1] =
    (if (!((((D.asL a0)).length : Int) == (((D.asL a1)).length : Int))) then
      some (2, [(D.bool false)])
    else
      (loopL (fun s1 =>
          if (decide ((D.asI (at_ s1 0)) < (((D.asL a0)).length : Int))) then
            if (decide (0 ≤ (D.asI (at_ s1 0)) ∧ (D.asI (at_ s1 0)) < (((D.asL a0)).length : Int))) then
            if (decide (0 ≤ (D.asI (at_ s1 0)) ∧ (D.asI (at_ s1 0)) < (((D.asL a1)).length : Int))) then
            if (D.asB (if (!((D.asI (at_ (D.asA (at_ (D.asL a0) (Int.toNat (D.asI (at_ s1 0))))) 0)) == (D.asI (at_ (D.asA (at_ (D.asL a1) (Int.toNat (D.asI (at_ s1 0))))) 0)))) then (D.bool true) else (D.bool (decide (0 ≤ (D.asI (at_ s1 0)) ∧ (D.asI (at_ s1 0)) < (((D.asL a0)).length : Int)))))) then
            if (D.asB (if (!((D.asI (at_ (D.asA (at_ (D.asL a0) (Int.toNat (D.asI (at_ s1 0))))) 0)) == (D.asI (at_ (D.asA (at_ (D.asL a1) (Int.toNat (D.asI (at_ s1 0))))) 0)))) then (D.bool true) else (D.bool (decide (0 ≤ (D.asI (at_ s1 0)) ∧ (D.asI (at_ s1 0)) < (((D.asL a1)).length : Int)))))) then
            if (D.asB (if ((!((D.asI (at_ (D.asA (at_ (D.asL a0) (Int.toNat (D.asI (at_ s1 0))))) 0)) == (D.asI (at_ (D.asA (at_ (D.asL a1) (Int.toNat (D.asI (at_ s1 0))))) 0)))) || (!((D.asI (at_ (D.asA (at_ (D.asL a0) (Int.toNat (D.asI (at_ s1 0))))) 2)) == (D.asI (at_ (D.asA (at_ (D.asL a1) (Int.toNat (D.asI (at_ s1 0))))) 2))))) then (D.bool true) else (D.bool (decide (0 ≤ (D.asI (at_ s1 0)) ∧ (D.asI (at_ s1 0)) < (((D.asL a0)).length : Int)))))) then
            if (D.asB (if ((!((D.asI (at_ (D.asA (at_ (D.asL a0) (Int.toNat (D.asI (at_ s1 0))))) 0)) == (D.asI (at_ (D.asA (at_ (D.asL a1) (Int.toNat (D.asI (at_ s1 0))))) 0)))) || (!((D.asI (at_ (D.asA (at_ (D.asL a0) (Int.toNat (D.asI (at_ s1 0))))) 2)) == (D.asI (at_ (D.asA (at_ (D.asL a1) (Int.toNat (D.asI (at_ s1 0))))) 2))))) then (D.bool true) else (D.bool (decide (0 ≤ (D.asI (at_ s1 0)) ∧ (D.asI (at_ s1 0)) < (((D.asL a1)).length : Int)))))) then
            callIf ((((!((D.asI (at_ (D.asA (at_ (D.asL a0) (Int.toNat (D.asI (at_ s1 0))))) 0)) == (D.asI (at_ (D.asA (at_ (D.asL a1) (Int.toNat (D.asI (at_ s1 0))))) 0)))) || (!((D.asI (at_ (D.asA (at_ (D.asL a0) (Int.toNat (D.asI (at_ s1 0))))) 2)) == (D.asI (at_ (D.asA (at_ (D.asL a1) (Int.toNat (D.asI (at_ s1 0))))) 2))))) == false) && true) (R 11 [(at_ (D.asA (at_ (D.asL a0) (Int.toNat (D.asI (at_ s1 0))))) 1), (at_ (D.asA (at_ (D.asL a1) (Int.toNat (D.asI (at_ s1 0))))) 1)]) fun r2 =>
            if (((!((D.asI (at_ (D.asA (at_ (D.asL a0) (Int.toNat (D.asI (at_ s1 0))))) 0)) == (D.asI (at_ (D.asA (at_ (D.asL a1) (Int.toNat (D.asI (at_ s1 0))))) 0)))) || (!((D.asI (at_ (D.asA (at_ (D.asL a0) (Int.toNat (D.asI (at_ s1 0))))) 2)) == (D.asI (at_ (D.asA (at_ (D.asL a1) (Int.toNat (D.asI (at_ s1 0))))) 2))))) || (!(D.asB (at_ r2 0)))) then
              some (2, [(D.bool false)])
            else
              some (0, [(D.int (IntKind.wrap .i64 ((D.asI (at_ s1 0)) + (1 : Int))))])
            else none
            else none
            else none
            else none
            else none
            else none
          else
            some (589830, [])) [(D.int 0)]).bind fun o0 =>
      if o0.1 = 589830 then
        some (2, [(D.bool true)])
      else some o0 : Option Out) := by kernel_rfl
-- errata/erratalaw27.two
def h21 : List (Nat × List (Nat × Tm × Nat)) := []
def il21 : IL := (.out 2 [(.un .mkagg (.bin .cons (.int 1) (.bin .cons (.bin .cons (.un .mkagg (.bin .cons (.int 0) (.bin .cons (.var 0) (.bin .cons (.str []) .lnil)))) (.bin .cons (.un .mkagg (.bin .cons (.int 0) (.bin .cons (.var 1) (.bin .cons (.str []) .lnil)))) .lnil)) (.bin .cons (.int 1) .lnil))))])
theorem d21 : decompF C ⟨[.int .i64, .int .i64], [.struct 37], [false]⟩ Tryd.f21 h21 = some il21 := by kernel_rfl
theorem e21 (R : Fns) (a0 a1 : D) : den C.G R il21 [a0, a1] =
    (some (2, [(D.agg ((D.int 1) :: ((D.list ((D.agg ((D.int 0) :: (a0 :: ((D.str []) :: ([] : List D))))) :: ((D.agg ((D.int 0) :: (a1 :: ((D.str []) :: ([] : List D))))) :: ([] : List D)))) :: ((D.int 1) :: ([] : List D)))))]) : Option Out) := by kernel_rfl
-- errata/code.Verify$1
def h25 : List (Nat × List (Nat × Tm × Nat)) := []
def il25 : IL := (.out 2 [(.bin .or (.bin .ilt (.var 0) (.int 0)) (.bin .ile (.int 3) (.var 0)))])
theorem d25 : decompF C ⟨[.int .i64], [.bool], [false]⟩ Tryd.f25 h25 = some il25 := by kernel_rfl
theorem e25 (R : Fns) (a0 : D) : den C.G R il25 [a0] =
    (some (2, [(D.bool ((decide ((D.asI a0) < (0 : Int))) || (decide ((3 : Int) ≤ (D.asI a0)))))]) : Option Out) := by kernel_rfl
-- errata/errataref25.Value
def h31 : List (Nat × List (Nat × Tm × Nat)) := []
def il31 : IL := (.call [] 1 51 [(.var 0), (.var 1), (.var 2)] (.call [] 1 52 [(.var 0), (.un .len (.un (.fld 0) (.var 0))), (.un (.fld 2) (.var 0))] (.ite (.bin .ilt (.var 4) (.int 0)) (.out 2 [(.un .mkagg (.bin .cons (.int 0) (.bin .cons (.int 0) (.bin .cons (.str []) .lnil))))]) (.chk (.bin .inb (.un .len (.var 3)) (.var 4)) (.out 2 [(.bin .idx (.var 3) (.var 4))])))))
theorem d31 : decompF C ⟨[.struct 25, .int .i64, .slice 39], [.struct 39], [false]⟩ Tryd.f31 h31 = some il31 := by kernel_rfl
theorem e31 (R : Fns) (a0 a1 a2 : D) : den C.G R il31 [a0, a1, a2] =
    ((R 51 [a0, a1, a2]).bind fun r0 =>
    (R 52 [a0, (D.int (((D.asL (at_ (D.asA a0) 0))).length : Int)), (at_ (D.asA a0) 2)]).bind fun r1 =>
    if (decide ((D.asI (at_ r1 0)) < (0 : Int))) then
      some (2, [(D.agg ((D.int 0) :: ((D.int 0) :: ((D.str []) :: ([] : List D)))))])
    else
      if (decide (0 ≤ (D.asI (at_ r1 0)) ∧ (D.asI (at_ r1 0)) < (((D.asL (at_ r0 0))).length : Int))) then
      some (2, [(at_ (D.asL (at_ r0 0)) (Int.toNat (D.asI (at_ r1 0))))])
      else none : Option Out) := by kernel_rfl
-- errata/code.formed
def h38 : List (Nat × List (Nat × Tm × Nat)) := []
def il38 : IL := (.call [] 1 54 [(.un (.fld 0) (.var 0))] (.call [((.var 1), true)] 1 55 [(.var 0)] (.chk (.tri .ite (.bin .and (.bin .and (.var 1) (.bin .deq (.var 2) (.var 0))) (.bin .ile (.un .slen (.un (.fld 6) (.var 0))) (.int 200))) (.tri .ite (.un .not (.bin .ieq (.un (.fld 0) (.var 0)) (.int 2))) (.bool true) (.bin .ile (.int 0) (.int 1))) (.bool true)) (.out 2 [(.bin .and (.bin .and (.bin .and (.var 1) (.bin .deq (.var 2) (.var 0))) (.bin .ile (.un .slen (.un (.fld 6) (.var 0))) (.int 200))) (.bin .or (.un .not (.bin .ieq (.un (.fld 0) (.var 0)) (.int 2))) (.bin .ieq (.bin (.shr .i64) (.un (.fld 5) (.var 0)) (.int 1)) (.int 0))))]))))
theorem d38 : decompF C ⟨[.struct 52], [.bool], [false]⟩ Tryd.f38 h38 = some il38 := by kernel_rfl
theorem e38 (R : Fns) (a0 : D) : den C.G R il38 [a0] =
    ((R 54 [(at_ (D.asA a0) 0)]).bind fun r0 =>
    callIf (((D.asB (at_ r0 0)) == true) && true) (R 55 [a0]) fun r1 =>
    if (D.asB (if (((D.asB (at_ r0 0)) && (D.beq (at_ r1 0) a0)) && (decide ((((D.asS (at_ (D.asA a0) 6))).length : Int) ≤ (200 : Int)))) then (if (!((D.asI (at_ (D.asA a0) 0)) == (2 : Int))) then (D.bool true) else (D.bool (decide ((0 : Int) ≤ (1 : Int))))) else (D.bool true))) then
    some (2, [(D.bool ((((D.asB (at_ r0 0)) && (D.beq (at_ r1 0) a0)) && (decide ((((D.asS (at_ (D.asA a0) 6))).length : Int) ≤ (200 : Int)))) && ((!((D.asI (at_ (D.asA a0) 0)) == (2 : Int))) || ((D.asI (U2.ev (.shr .i64) (at_ (D.asA a0) 5) (D.int 1))) == (0 : Int)))))])
    else none : Option Out) := by kernel_rfl
-- errata/errataref25.typed
def h50 : List (Nat × List (Nat × Tm × Nat)) := [(9, [(0, ⟨[(9, (.dat (.slice 3) (.var 3))), (10, (.dat (.int .i64) (.var 4))), (8, (.bptr 64 [] 75)), (2, (.dat (.slice 3) (.var 2))), (1, (.dat (.slice 3) (.var 1))), (7, (.dat (.bool) (.bool false))), (6, (.dat (.int .i64) (.int 0)))], [(64, (.box 75 (.agg 75 [(.dat (.int .i64) (.un (.fld 0) (.var 0))), (.dat (.int .i64) (.un (.fld 5) (.var 0))), (.dat (.str) (.un (.fld 6) (.var 0))), (.sli 272 0 75)]))), (272, (.arr 75 (.var 5) 0))]⟩, 2), (3, ⟨[(8, (.bptr 64 [] 75)), (2, (.dat (.slice 3) (.var 2))), (1, (.dat (.slice 3) (.var 1))), (7, (.dat (.bool) (.bool false))), (6, (.dat (.int .i64) (.int 0)))], [(64, (.box 75 (.agg 75 [(.dat (.int .i64) (.un (.fld 0) (.var 0))), (.dat (.int .i64) (.un (.fld 5) (.var 0))), (.dat (.str) (.un (.fld 6) (.var 0))), (.sli 272 0 75)]))), (272, (.arr 75 (.var 4) 0))]⟩, 1)])]
def il50 : IL := (.call [] 1 49 [(.var 0)] (.bindc (.loop [(.int 0), .lnil] (.ite (.bin .ilt (.var 4) (.un .len (.var 3))) (.chk (.bin .inb (.un .len (.var 3)) (.var 4)) (.chk (.bin (.fits 34359738368) (.un .len (.var 5)) (.un .len (.bin .cons (.un .mkagg (.bin .cons (.int 4) (.bin .cons (.bin .idx (.var 3) (.var 4)) (.bin .cons (.str []) (.bin .cons .lnil .lnil))))) .lnil))) (.out 0 [(.bin (.add .i64) (.var 4) (.int 1)), (.bin .snoc (.var 5) (.un .mkagg (.bin .cons (.int 4) (.bin .cons (.bin .idx (.var 3) (.var 4)) (.bin .cons (.str []) (.bin .cons .lnil .lnil))))))]))) (.out 589830 [(.var 5)]))) 589830 1 (.call [] 2 72 [.lnil, (.var 1), (.var 2), (.un .mkagg (.bin .cons (.un (.fld 0) (.var 0)) (.bin .cons (.un (.fld 5) (.var 0)) (.bin .cons (.un (.fld 6) (.var 0)) (.bin .cons (.var 4) .lnil)))))] (.out 2 [(.var 5), (.var 6)]))))
theorem d50 : decompF C ⟨[.struct 52, .slice 3, .slice 3], [.int .i64, .bool], [false, false]⟩ Tryd.f50 h50 = some il50 := by kernel_rfl
theorem e50 (R : Fns) (a0 a1 a2 : D) : den C.G R il50 [a0, a1, a2] =
    ((R 49 [a0]).bind fun r0 =>
    (loopL (fun s2 =>
        if (decide ((D.asI (at_ s2 0)) < (((D.asL (at_ r0 0))).length : Int))) then
          if (decide (0 ≤ (D.asI (at_ s2 0)) ∧ (D.asI (at_ s2 0)) < (((D.asL (at_ r0 0))).length : Int))) then
          if (D.asB (U2.ev (.fits 34359738368) (D.int (((D.asL (at_ s2 1))).length : Int)) (D.int ((((D.agg ((D.int 4) :: ((at_ (D.asL (at_ r0 0)) (Int.toNat (D.asI (at_ s2 0)))) :: ((D.str []) :: ((D.list []) :: ([] : List D)))))) :: ([] : List D))).length : Int)))) then
          some (0, [(D.int (IntKind.wrap .i64 ((D.asI (at_ s2 0)) + (1 : Int)))), (D.list ((D.asL (at_ s2 1)) ++ [(D.agg ((D.int 4) :: ((at_ (D.asL (at_ r0 0)) (Int.toNat (D.asI (at_ s2 0)))) :: ((D.str []) :: ((D.list []) :: ([] : List D))))))]))])
          else none
          else none
        else
          some (589830, [(at_ s2 1)])) [(D.int 0), (D.list [])]).bind fun o1 =>
    if o1.1 = 589830 then
      (R 72 [(D.list []), a1, a2, (D.agg ((at_ (D.asA a0) 0) :: ((at_ (D.asA a0) 5) :: ((at_ (D.asA a0) 6) :: ((at_ o1.2 0) :: ([] : List D))))))]).bind fun r2 =>
      some (2, [(at_ r2 0), (at_ r2 1)])
    else some o1 : Option Out) := by kernel_rfl
-- errata/errataref03.Right
def h53 : List (Nat × List (Nat × Tm × Nat)) := []
def il53 : IL := (.ite (.bin .ieq (.un (.fld 0) (.var 0)) (.int 0)) (.out 2 [(.bin .seq (.un (.fld 2) (.var 0)) (.str []))]) (.ite (.bin .ieq (.un (.fld 0) (.var 0)) (.int 1)) (.out 2 [(.bin .and (.bin .ieq (.un (.fld 1) (.var 0)) (.int 0)) (.bin .ile (.un .slen (.un (.fld 2) (.var 0))) (.int 200)))]) (.out 2 [(.bin .and (.bin .and (.bin .ieq (.un (.fld 0) (.var 0)) (.int 2)) (.bin .or (.bin .ieq (.un (.fld 1) (.var 0)) (.int 0)) (.bin .ieq (.un (.fld 1) (.var 0)) (.int 1)))) (.bin .seq (.un (.fld 2) (.var 0)) (.str [])))])))
theorem d53 : decompF C ⟨[.struct 39], [.bool], [false]⟩ Tryd.f53 h53 = some il53 := by kernel_rfl
theorem e53 (R : Fns) (a0 : D) : den C.G R il53 [a0] =
    (if ((D.asI (at_ (D.asA a0) 0)) == (0 : Int)) then
      some (2, [(D.bool ((D.asS (at_ (D.asA a0) 2)) == []))])
    else
      if ((D.asI (at_ (D.asA a0) 0)) == (1 : Int)) then
        some (2, [(D.bool (((D.asI (at_ (D.asA a0) 1)) == (0 : Int)) && (decide ((((D.asS (at_ (D.asA a0) 2))).length : Int) ≤ (200 : Int)))))])
      else
        some (2, [(D.bool ((((D.asI (at_ (D.asA a0) 0)) == (2 : Int)) && (((D.asI (at_ (D.asA a0) 1)) == (0 : Int)) || ((D.asI (at_ (D.asA a0) 1)) == (1 : Int)))) && ((D.asS (at_ (D.asA a0) 2)) == [])))]) : Option Out) := by kernel_rfl
-- (*errata/vm.machine).one$1
def h65 : List (Nat × List (Nat × Tm × Nat)) := []
def il65 : IL := (.chk (.un .isptr (.var 1)) (.chk (.un .isptr (.var 2)) (.ite (.bin .ieq (.un (.fld 0) (.un .deref (.var 1))) (.int 6)) (.chk (.bin .inb (.un .len (.un .deref (.var 2))) (.var 0)) (.call [] 1 63 [(.bin .ieq (.un (.fld 1) (.bin .idx (.un .deref (.var 2)) (.var 0))) (.int 0))] (.out 2 [(.var 3)]))) (.ite (.bin .ieq (.un (.fld 0) (.un .deref (.var 1))) (.int 7)) (.chk (.bin .inb (.un .len (.un .deref (.var 2))) (.var 0)) (.call [] 1 62 [(.un (.neg .i64) (.un (.fld 1) (.bin .idx (.un .deref (.var 2)) (.var 0))))] (.out 2 [(.var 3)]))) (.chk (.bin .inb (.un .len (.un .deref (.var 2))) (.var 0)) (.call [] 1 62 [(.un .slen (.un (.fld 2) (.bin .idx (.un .deref (.var 2)) (.var 0))))] (.out 2 [(.var 3)])))))))
theorem d65 : decompF C ⟨[.int .i64, .ptr 52, .ptr 33], [.struct 39], [false]⟩ Tryd.f65 h65 = some il65 := by kernel_rfl
theorem e65 (R : Fns) (a0 a1 a2 : D) : den C.G R il65 [a0, a1, a2] =
    (if (D.isP a1) then
    if (D.isP a2) then
    if ((D.asI (at_ (D.asA (D.asP a1)) 0)) == (6 : Int)) then
      if (decide (0 ≤ (D.asI a0) ∧ (D.asI a0) < (((D.asL (D.asP a2))).length : Int))) then
      (R 63 [(D.bool ((D.asI (at_ (D.asA (at_ (D.asL (D.asP a2)) (Int.toNat (D.asI a0)))) 1)) == (0 : Int)))]).bind fun r0 =>
      some (2, [(at_ r0 0)])
      else none
    else
      if ((D.asI (at_ (D.asA (D.asP a1)) 0)) == (7 : Int)) then
        if (decide (0 ≤ (D.asI a0) ∧ (D.asI a0) < (((D.asL (D.asP a2))).length : Int))) then
        (R 62 [(D.int (IntKind.wrap .i64 (0 - (D.asI (at_ (D.asA (at_ (D.asL (D.asP a2)) (Int.toNat (D.asI a0)))) 1)))))]).bind fun r0 =>
        some (2, [(at_ r0 0)])
        else none
      else
        if (decide (0 ≤ (D.asI a0) ∧ (D.asI a0) < (((D.asL (D.asP a2))).length : Int))) then
        (R 62 [(D.int (((D.asS (at_ (D.asA (at_ (D.asL (D.asP a2)) (Int.toNat (D.asI a0)))) 2))).length : Int))]).bind fun r0 =>
        some (2, [(at_ r0 0)])
        else none
    else none
    else none : Option Out) := by kernel_rfl
-- (*errata/vm.machine).two$1
def h66 : List (Nat × List (Nat × Tm × Nat)) := []
def il66 : IL := (.chk (.un .isptr (.var 1)) (.chk (.un .isptr (.var 2)) (.chk (.un .isptr (.var 3)) (.ite (.bin .ieq (.un (.fld 0) (.un .deref (.var 1))) (.int 13)) (.chk (.bin .inb (.un .len (.un .deref (.var 2))) (.var 0)) (.chk (.bin .inb (.un .len (.un .deref (.var 3))) (.var 0)) (.call [] 1 63 [(.bin .deq (.bin .idx (.un .deref (.var 2)) (.var 0)) (.bin .idx (.un .deref (.var 3)) (.var 0)))] (.out 2 [(.var 4)])))) (.ite (.bin .ieq (.un (.fld 0) (.un .deref (.var 1))) (.int 14)) (.chk (.bin .inb (.un .len (.un .deref (.var 2))) (.var 0)) (.chk (.bin .inb (.un .len (.un .deref (.var 3))) (.var 0)) (.call [] 1 63 [(.un .not (.bin .deq (.bin .idx (.un .deref (.var 2)) (.var 0)) (.bin .idx (.un .deref (.var 3)) (.var 0))))] (.out 2 [(.var 4)])))) (.ite (.bin .ieq (.un (.fld 0) (.un .deref (.var 1))) (.int 15)) (.chk (.bin .inb (.un .len (.un .deref (.var 2))) (.var 0)) (.chk (.bin .inb (.un .len (.un .deref (.var 3))) (.var 0)) (.call [] 1 67 [(.bin .idx (.un .deref (.var 2)) (.var 0)), (.bin .idx (.un .deref (.var 3)) (.var 0))] (.call [] 1 63 [(.bin .ilt (.var 4) (.int 0))] (.out 2 [(.var 5)]))))) (.ite (.bin .ieq (.un (.fld 0) (.un .deref (.var 1))) (.int 16)) (.chk (.bin .inb (.un .len (.un .deref (.var 2))) (.var 0)) (.chk (.bin .inb (.un .len (.un .deref (.var 3))) (.var 0)) (.call [] 1 67 [(.bin .idx (.un .deref (.var 2)) (.var 0)), (.bin .idx (.un .deref (.var 3)) (.var 0))] (.call [] 1 63 [(.bin .ile (.var 4) (.int 0))] (.out 2 [(.var 5)]))))) (.ite (.bin .ieq (.un (.fld 0) (.un .deref (.var 1))) (.int 17)) (.chk (.bin .inb (.un .len (.un .deref (.var 2))) (.var 0)) (.chk (.tri .ite (.bin .ieq (.un (.fld 1) (.bin .idx (.un .deref (.var 2)) (.var 0))) (.int 1)) (.bin .inb (.un .len (.un .deref (.var 3))) (.var 0)) (.bool true)) (.call [] 1 63 [(.bin .and (.bin .ieq (.un (.fld 1) (.bin .idx (.un .deref (.var 2)) (.var 0))) (.int 1)) (.bin .ieq (.un (.fld 1) (.bin .idx (.un .deref (.var 3)) (.var 0))) (.int 1)))] (.out 2 [(.var 4)])))) (.ite (.bin .ieq (.un (.fld 0) (.un .deref (.var 1))) (.int 18)) (.chk (.bin .inb (.un .len (.un .deref (.var 2))) (.var 0)) (.chk (.tri .ite (.bin .ieq (.un (.fld 1) (.bin .idx (.un .deref (.var 2)) (.var 0))) (.int 1)) (.bool true) (.bin .inb (.un .len (.un .deref (.var 3))) (.var 0))) (.call [] 1 63 [(.bin .or (.bin .ieq (.un (.fld 1) (.bin .idx (.un .deref (.var 2)) (.var 0))) (.int 1)) (.bin .ieq (.un (.fld 1) (.bin .idx (.un .deref (.var 3)) (.var 0))) (.int 1)))] (.out 2 [(.var 4)])))) (.ite (.bin .ieq (.un (.fld 0) (.un .deref (.var 1))) (.int 19)) (.chk (.bin .inb (.un .len (.un .deref (.var 2))) (.var 0)) (.chk (.bin .inb (.un .len (.un .deref (.var 3))) (.var 0)) (.chk (.bin (.fits 34359738368) (.un .slen (.un (.fld 2) (.bin .idx (.un .deref (.var 2)) (.var 0)))) (.un .slen (.un (.fld 2) (.bin .idx (.un .deref (.var 3)) (.var 0))))) (.chk (.tri .cut (.int 0) (.bin .imin (.un .slen (.bin .cat (.un (.fld 2) (.bin .idx (.un .deref (.var 2)) (.var 0))) (.un (.fld 2) (.bin .idx (.un .deref (.var 3)) (.var 0))))) (.int 200)) (.un .slen (.bin .cat (.un (.fld 2) (.bin .idx (.un .deref (.var 2)) (.var 0))) (.un (.fld 2) (.bin .idx (.un .deref (.var 3)) (.var 0)))))) (.call [] 1 64 [(.bin .sdrop (.bin .stake (.bin .cat (.un (.fld 2) (.bin .idx (.un .deref (.var 2)) (.var 0))) (.un (.fld 2) (.bin .idx (.un .deref (.var 3)) (.var 0)))) (.bin .imin (.un .slen (.bin .cat (.un (.fld 2) (.bin .idx (.un .deref (.var 2)) (.var 0))) (.un (.fld 2) (.bin .idx (.un .deref (.var 3)) (.var 0))))) (.int 200))) (.int 0))] (.out 2 [(.var 4)])))))) (.chk (.bin .inb (.un .len (.un .deref (.var 2))) (.var 0)) (.chk (.bin .inb (.un .len (.un .deref (.var 3))) (.var 0)) (.call [] 1 68 [(.un (.fld 0) (.un .deref (.var 1))), (.un (.fld 1) (.bin .idx (.un .deref (.var 2)) (.var 0))), (.un (.fld 1) (.bin .idx (.un .deref (.var 3)) (.var 0)))] (.out 2 [(.var 4)]))))))))))))))
theorem d66 : decompF C ⟨[.int .i64, .ptr 52, .ptr 33, .ptr 33], [.struct 39], [false]⟩ Tryd.f66 h66 = some il66 := by kernel_rfl
theorem e66 (R : Fns) (a0 a1 a2 a3 : D) : den C.G R il66 [a0, a1, a2, a3] =
    (if (D.isP a1) then
    if (D.isP a2) then
    if (D.isP a3) then
    if ((D.asI (at_ (D.asA (D.asP a1)) 0)) == (13 : Int)) then
      if (decide (0 ≤ (D.asI a0) ∧ (D.asI a0) < (((D.asL (D.asP a2))).length : Int))) then
      if (decide (0 ≤ (D.asI a0) ∧ (D.asI a0) < (((D.asL (D.asP a3))).length : Int))) then
      (R 63 [(D.bool (D.beq (at_ (D.asL (D.asP a2)) (Int.toNat (D.asI a0))) (at_ (D.asL (D.asP a3)) (Int.toNat (D.asI a0)))))]).bind fun r0 =>
      some (2, [(at_ r0 0)])
      else none
      else none
    else
      if ((D.asI (at_ (D.asA (D.asP a1)) 0)) == (14 : Int)) then
        if (decide (0 ≤ (D.asI a0) ∧ (D.asI a0) < (((D.asL (D.asP a2))).length : Int))) then
        if (decide (0 ≤ (D.asI a0) ∧ (D.asI a0) < (((D.asL (D.asP a3))).length : Int))) then
        (R 63 [(D.bool (!(D.beq (at_ (D.asL (D.asP a2)) (Int.toNat (D.asI a0))) (at_ (D.asL (D.asP a3)) (Int.toNat (D.asI a0))))))]).bind fun r0 =>
        some (2, [(at_ r0 0)])
        else none
        else none
      else
        if ((D.asI (at_ (D.asA (D.asP a1)) 0)) == (15 : Int)) then
          if (decide (0 ≤ (D.asI a0) ∧ (D.asI a0) < (((D.asL (D.asP a2))).length : Int))) then
          if (decide (0 ≤ (D.asI a0) ∧ (D.asI a0) < (((D.asL (D.asP a3))).length : Int))) then
          (R 67 [(at_ (D.asL (D.asP a2)) (Int.toNat (D.asI a0))), (at_ (D.asL (D.asP a3)) (Int.toNat (D.asI a0)))]).bind fun r0 =>
          (R 63 [(D.bool (decide ((D.asI (at_ r0 0)) < (0 : Int))))]).bind fun r1 =>
          some (2, [(at_ r1 0)])
          else none
          else none
        else
          if ((D.asI (at_ (D.asA (D.asP a1)) 0)) == (16 : Int)) then
            if (decide (0 ≤ (D.asI a0) ∧ (D.asI a0) < (((D.asL (D.asP a2))).length : Int))) then
            if (decide (0 ≤ (D.asI a0) ∧ (D.asI a0) < (((D.asL (D.asP a3))).length : Int))) then
            (R 67 [(at_ (D.asL (D.asP a2)) (Int.toNat (D.asI a0))), (at_ (D.asL (D.asP a3)) (Int.toNat (D.asI a0)))]).bind fun r0 =>
            (R 63 [(D.bool (decide ((D.asI (at_ r0 0)) ≤ (0 : Int))))]).bind fun r1 =>
            some (2, [(at_ r1 0)])
            else none
            else none
          else
            if ((D.asI (at_ (D.asA (D.asP a1)) 0)) == (17 : Int)) then
              if (decide (0 ≤ (D.asI a0) ∧ (D.asI a0) < (((D.asL (D.asP a2))).length : Int))) then
              if (D.asB (if ((D.asI (at_ (D.asA (at_ (D.asL (D.asP a2)) (Int.toNat (D.asI a0)))) 1)) == (1 : Int)) then (D.bool (decide (0 ≤ (D.asI a0) ∧ (D.asI a0) < (((D.asL (D.asP a3))).length : Int)))) else (D.bool true))) then
              (R 63 [(D.bool (((D.asI (at_ (D.asA (at_ (D.asL (D.asP a2)) (Int.toNat (D.asI a0)))) 1)) == (1 : Int)) && ((D.asI (at_ (D.asA (at_ (D.asL (D.asP a3)) (Int.toNat (D.asI a0)))) 1)) == (1 : Int))))]).bind fun r0 =>
              some (2, [(at_ r0 0)])
              else none
              else none
            else
              if ((D.asI (at_ (D.asA (D.asP a1)) 0)) == (18 : Int)) then
                if (decide (0 ≤ (D.asI a0) ∧ (D.asI a0) < (((D.asL (D.asP a2))).length : Int))) then
                if (D.asB (if ((D.asI (at_ (D.asA (at_ (D.asL (D.asP a2)) (Int.toNat (D.asI a0)))) 1)) == (1 : Int)) then (D.bool true) else (D.bool (decide (0 ≤ (D.asI a0) ∧ (D.asI a0) < (((D.asL (D.asP a3))).length : Int)))))) then
                (R 63 [(D.bool (((D.asI (at_ (D.asA (at_ (D.asL (D.asP a2)) (Int.toNat (D.asI a0)))) 1)) == (1 : Int)) || ((D.asI (at_ (D.asA (at_ (D.asL (D.asP a3)) (Int.toNat (D.asI a0)))) 1)) == (1 : Int))))]).bind fun r0 =>
                some (2, [(at_ r0 0)])
                else none
                else none
              else
                if ((D.asI (at_ (D.asA (D.asP a1)) 0)) == (19 : Int)) then
                  if (decide (0 ≤ (D.asI a0) ∧ (D.asI a0) < (((D.asL (D.asP a2))).length : Int))) then
                  if (decide (0 ≤ (D.asI a0) ∧ (D.asI a0) < (((D.asL (D.asP a3))).length : Int))) then
                  if (D.asB (U2.ev (.fits 34359738368) (D.int (((D.asS (at_ (D.asA (at_ (D.asL (D.asP a2)) (Int.toNat (D.asI a0)))) 2))).length : Int)) (D.int (((D.asS (at_ (D.asA (at_ (D.asL (D.asP a3)) (Int.toNat (D.asI a0)))) 2))).length : Int)))) then
                  if (decide (0 ≤ (0 : Int) ∧ (0 : Int) ≤ (if (200 : Int) < ((((D.asS (at_ (D.asA (at_ (D.asL (D.asP a2)) (Int.toNat (D.asI a0)))) 2)) ++ (D.asS (at_ (D.asA (at_ (D.asL (D.asP a3)) (Int.toNat (D.asI a0)))) 2)))).length : Int) then (200 : Int) else ((((D.asS (at_ (D.asA (at_ (D.asL (D.asP a2)) (Int.toNat (D.asI a0)))) 2)) ++ (D.asS (at_ (D.asA (at_ (D.asL (D.asP a3)) (Int.toNat (D.asI a0)))) 2)))).length : Int)) ∧ (if (200 : Int) < ((((D.asS (at_ (D.asA (at_ (D.asL (D.asP a2)) (Int.toNat (D.asI a0)))) 2)) ++ (D.asS (at_ (D.asA (at_ (D.asL (D.asP a3)) (Int.toNat (D.asI a0)))) 2)))).length : Int) then (200 : Int) else ((((D.asS (at_ (D.asA (at_ (D.asL (D.asP a2)) (Int.toNat (D.asI a0)))) 2)) ++ (D.asS (at_ (D.asA (at_ (D.asL (D.asP a3)) (Int.toNat (D.asI a0)))) 2)))).length : Int)) ≤ ((((D.asS (at_ (D.asA (at_ (D.asL (D.asP a2)) (Int.toNat (D.asI a0)))) 2)) ++ (D.asS (at_ (D.asA (at_ (D.asL (D.asP a3)) (Int.toNat (D.asI a0)))) 2)))).length : Int))) then
                  (R 64 [(D.str ((((((D.asS (at_ (D.asA (at_ (D.asL (D.asP a2)) (Int.toNat (D.asI a0)))) 2)) ++ (D.asS (at_ (D.asA (at_ (D.asL (D.asP a3)) (Int.toNat (D.asI a0)))) 2)))).take (Int.toNat (if (200 : Int) < ((((D.asS (at_ (D.asA (at_ (D.asL (D.asP a2)) (Int.toNat (D.asI a0)))) 2)) ++ (D.asS (at_ (D.asA (at_ (D.asL (D.asP a3)) (Int.toNat (D.asI a0)))) 2)))).length : Int) then (200 : Int) else ((((D.asS (at_ (D.asA (at_ (D.asL (D.asP a2)) (Int.toNat (D.asI a0)))) 2)) ++ (D.asS (at_ (D.asA (at_ (D.asL (D.asP a3)) (Int.toNat (D.asI a0)))) 2)))).length : Int))))).drop (Int.toNat 0)))]).bind fun r0 =>
                  some (2, [(at_ r0 0)])
                  else none
                  else none
                  else none
                  else none
                else
                  if (decide (0 ≤ (D.asI a0) ∧ (D.asI a0) < (((D.asL (D.asP a2))).length : Int))) then
                  if (decide (0 ≤ (D.asI a0) ∧ (D.asI a0) < (((D.asL (D.asP a3))).length : Int))) then
                  (R 68 [(at_ (D.asA (D.asP a1)) 0), (at_ (D.asA (at_ (D.asL (D.asP a2)) (Int.toNat (D.asI a0)))) 1), (at_ (D.asA (at_ (D.asL (D.asP a3)) (Int.toNat (D.asI a0)))) 1)]).bind fun r0 =>
                  some (2, [(at_ r0 0)])
                  else none
                  else none
    else none
    else none
    else none : Option Out) := by kernel_rfl
-- errata/errataref25.arity
def h71 : List (Nat × List (Nat × Tm × Nat)) := [(14, [(1, ⟨[(3, (.dat (.int .i64) (.var 0))), (4, (.dat (.bool) (.var 1))), (2, (.dat (.int .i64) (.int 0)))], []⟩, 1)]), (22, [(1, ⟨[(3, (.dat (.int .i64) (.var 0))), (10, (.dat (.bool) (.var 2))), (2, (.dat (.int .i64) (.int 0)))], []⟩, 1)])]
def il71 : IL := (.bindc (.ite (.bin .ieq (.var 0) (.int 0)) (.out 917508 [(.bin .ieq (.var 0) (.int 0))]) (.ite (.bin .ieq (.var 0) (.int 1)) (.out 917508 [(.bin .ieq (.var 0) (.int 1))]) (.ite (.bin .ieq (.var 0) (.int 2)) (.out 917508 [(.bin .ieq (.var 0) (.int 2))]) (.ite (.bin .ieq (.var 0) (.int 3)) (.out 917508 [(.bin .ieq (.var 0) (.int 3))]) (.out 917508 [(.bin .ieq (.var 0) (.int 5))]))))) 917508 1 (.ite (.var 1) (.out 2 [(.int 0)]) (.bindc (.ite (.bin .ieq (.var 0) (.int 6)) (.out 1441796 [(.bin .ieq (.var 0) (.int 6))]) (.ite (.bin .ieq (.var 0) (.int 7)) (.out 1441796 [(.bin .ieq (.var 0) (.int 7))]) (.out 1441796 [(.bin .ieq (.var 0) (.int 20))]))) 1441796 1 (.ite (.var 2) (.out 2 [(.int 1)]) (.ite (.bin .ieq (.var 0) (.int 21)) (.out 2 [(.int 3)]) (.out 2 [(.int 2)]))))))
theorem d71 : decompF C ⟨[.int .i64], [.int .i64], [false]⟩ Tryd.f71 h71 = some il71 := by kernel_rfl
theorem e71 (R : Fns) (a0 : D) : den C.G R il71 [a0] =
    ((if ((D.asI a0) == (0 : Int)) then
        some (917508, [(D.bool ((D.asI a0) == (0 : Int)))])
      else
        if ((D.asI a0) == (1 : Int)) then
          some (917508, [(D.bool ((D.asI a0) == (1 : Int)))])
        else
          if ((D.asI a0) == (2 : Int)) then
            some (917508, [(D.bool ((D.asI a0) == (2 : Int)))])
          else
            if ((D.asI a0) == (3 : Int)) then
              some (917508, [(D.bool ((D.asI a0) == (3 : Int)))])
            else
              some (917508, [(D.bool ((D.asI a0) == (5 : Int)))])).bind fun o0 =>
    if o0.1 = 917508 then
      if (D.asB (at_ o0.2 0)) then
        some (2, [(D.int 0)])
      else
        (if ((D.asI a0) == (6 : Int)) then
            some (1441796, [(D.bool ((D.asI a0) == (6 : Int)))])
          else
            if ((D.asI a0) == (7 : Int)) then
              some (1441796, [(D.bool ((D.asI a0) == (7 : Int)))])
            else
              some (1441796, [(D.bool ((D.asI a0) == (20 : Int)))])).bind fun o1 =>
        if o1.1 = 1441796 then
          if (D.asB (at_ o1.2 0)) then
            some (2, [(D.int 1)])
          else
            if ((D.asI a0) == (21 : Int)) then
              some (2, [(D.int 3)])
            else
              some (2, [(D.int 2)])
        else some o1
    else some o0 : Option Out) := by kernel_rfl
-- errata/value.all$1
def h80 : List (Nat × List (Nat × Tm × Nat)) := []
def il80 : IL := (.call [] 1 81 [(.var 0)] (.out 2 [(.un .not (.var 1))]))
theorem d80 : decompF C ⟨[.struct 39], [.bool], [false]⟩ Tryd.f80 h80 = some il80 := by kernel_rfl
theorem e80 (R : Fns) (a0 : D) : den C.G R il80 [a0] =
    ((R 81 [a0]).bind fun r0 =>
    some (2, [(D.bool (!(D.asB (at_ r0 0))))]) : Option Out) := by kernel_rfl
-- errata/vm.divided
def h85 : List (Nat × List (Nat × Tm × Nat)) := []
def il85 : IL := (.ite (.bin .ieq (.var 1) (.int 0)) (.out 2 [(.int 0), (.int 0)]) (.chk (.un .not (.bin .ieq (.var 1) (.int 0))) (.chk (.un .not (.bin .ieq (.var 1) (.int 0))) (.out 2 [(.bin (.quo .i64) (.var 0) (.var 1)), (.bin (.rem .i64) (.var 0) (.var 1))]))))
theorem d85 : decompF C ⟨[.int .i64, .int .i64], [.int .i64, .int .i64], [false, false]⟩ Tryd.f85 h85 = some il85 := by kernel_rfl
theorem e85 (R : Fns) (a0 a1 : D) : den C.G R il85 [a0, a1] =
    (if ((D.asI a1) == (0 : Int)) then
      some (2, [(D.int 0), (D.int 0)])
    else
      if (!((D.asI a1) == (0 : Int))) then
      if (!((D.asI a1) == (0 : Int))) then
      some (2, [(D.int (IntKind.wrap .i64 (Int.tdiv (D.asI a0) (D.asI a1)))), (D.int (Int.tmod (D.asI a0) (D.asI a1)))])
      else none
      else none : Option Out) := by kernel_rfl
-- errata/errataref16.Run
def h88 : List (Nat × List (Nat × Tm × Nat)) := [(23, [(0, ⟨[(16, (.dat (.int .i64) (.var 5))), (15, (.sli 600 0 39)), (0, (.dat (.slice 107) (.var 0))), (2, (.dat (.int .i64) (.var 2))), (4, (.dat (.slice 39) (.var 4))), (14, (.dat (.int .i64) (.var 6))), (3, (.dat (.slice 39) (.var 3))), (6, (.bptr 48 [] 75)), (10, (.bptr 80 [] 117))], [(600, (.arr 39 (.var 7) 0)), (48, (.box 75 (.dat (.struct 75) (.var 1)))), (80, (.box 117 (.agg 117 [(.agg 39 [(.dat (.int .i64) (.int 0)), (.dat (.int .i64) (.int 0)), (.dat (.str) (.str []))]), (.dat (.int .i64) (.int 0))])))]⟩, 3), (3, ⟨[(15, (.sli 600 0 39)), (0, (.dat (.slice 107) (.var 0))), (2, (.dat (.int .i64) (.var 2))), (4, (.dat (.slice 39) (.var 4))), (14, (.dat (.int .i64) (.var 5))), (3, (.dat (.slice 39) (.var 3))), (6, (.bptr 48 [] 75)), (10, (.bptr 80 [] 117))], [(600, (.arr 39 (.var 6) 0)), (48, (.box 75 (.dat (.struct 75) (.var 1)))), (80, (.box 117 (.agg 117 [(.agg 39 [(.dat (.int .i64) (.int 0)), (.dat (.int .i64) (.int 0)), (.dat (.str) (.str []))]), (.dat (.int .i64) (.int 0))])))]⟩, 2)]), (12, [(1, ⟨[(11, (.bptr 88 [] 117)), (12, (.dat (.int .i64) (.var 6))), (4, (.dat (.slice 39) (.var 4))), (3, (.dat (.slice 39) (.var 3))), (2, (.dat (.int .i64) (.var 2))), (0, (.dat (.slice 107) (.var 0))), (6, (.bptr 48 [] 75)), (10, (.bptr 80 [] 117))], [(88, (.box 117 (.dat (.struct 117) (.var 5)))), (48, (.box 75 (.dat (.struct 75) (.var 1)))), (80, (.box 117 (.agg 117 [(.agg 39 [(.dat (.int .i64) (.int 0)), (.dat (.int .i64) (.int 0)), (.dat (.str) (.str []))]), (.dat (.int .i64) (.int 0))])))]⟩, 1)])]
def il88 : IL := (.ite (.bin .ieq (.un (.fld 0) (.var 1)) (.int 21)) (.chk (.bin .inb (.un .len (.un (.fld 3) (.var 1))) (.int 0)) (.call [] 1 88 [(.var 0), (.bin .idx (.un (.fld 3) (.var 1)) (.int 0)), (.var 2), (.var 3), (.var 4)] (.bindc (.ite (.bin .ieq (.un (.fld 1) (.un (.fld 0) (.var 5))) (.int 1)) (.out 786436 [(.int 1)]) (.out 786436 [(.int 2)])) 786436 1 (.chk (.bin .inb (.un .len (.un (.fld 3) (.var 1))) (.var 6)) (.call [] 1 88 [(.var 0), (.bin .idx (.un (.fld 3) (.var 1)) (.var 6)), (.var 2), (.var 3), (.var 4)] (.out 2 [(.un .mkagg (.bin .cons (.un (.fld 0) (.var 7)) (.bin .cons (.bin (.add .i64) (.bin (.add .i64) (.int 1) (.un (.fld 1) (.var 5))) (.un (.fld 1) (.var 7))) .lnil)))])))))) (.bindc (.loop [(.int 0), (.int 1), .lnil] (.ite (.bin .ilt (.var 5) (.un .len (.un (.fld 3) (.var 1)))) (.chk (.bin .inb (.un .len (.un (.fld 3) (.var 1))) (.var 5)) (.call [] 1 88 [(.var 0), (.bin .idx (.un (.fld 3) (.var 1)) (.var 5)), (.var 2), (.var 3), (.var 4)] (.chk (.bin (.fits 34359738368) (.un .len (.var 7)) (.un .len (.bin .cons (.un (.fld 0) (.var 8)) .lnil))) (.out 0 [(.bin (.add .i64) (.var 5) (.int 1)), (.bin (.add .i64) (.var 6) (.un (.fld 1) (.var 8))), (.bin .snoc (.var 7) (.un (.fld 0) (.var 8)))])))) (.out 1507334 [(.var 6), (.var 7)]))) 1507334 2 (.ite (.bin .ieq (.un (.fld 0) (.var 1)) (.int 3)) (.chk (.bin .inb (.un .len (.var 3)) (.un (.fld 1) (.var 1))) (.out 2 [(.un .mkagg (.bin .cons (.bin .idx (.var 3) (.un (.fld 1) (.var 1))) (.bin .cons (.var 5) .lnil)))])) (.ite (.bin .ieq (.un (.fld 0) (.var 1)) (.int 4)) (.chk (.bin .inb (.un .len (.var 4)) (.un (.fld 1) (.var 1))) (.out 2 [(.un .mkagg (.bin .cons (.bin .idx (.var 4) (.un (.fld 1) (.var 1))) (.bin .cons (.var 5) .lnil)))])) (.ite (.bin .ieq (.un (.fld 0) (.var 1)) (.int 5)) (.out 2 [(.un .mkagg (.bin .cons (.un .mkagg (.bin .cons (.int 0) (.bin .cons (.var 2) (.bin .cons (.str []) .lnil)))) (.bin .cons (.var 5) .lnil)))]) (.ite (.bin .ieq (.un (.fld 0) (.var 1)) (.int 22)) (.chk (.bin .inb (.un .len (.var 0)) (.un (.fld 1) (.var 1))) (.call [] 1 88 [(.var 0), (.un (.fld 3) (.bin .idx (.var 0) (.un (.fld 1) (.var 1)))), (.var 2), .lnil, (.var 6)] (.out 2 [(.un .mkagg (.bin .cons (.un (.fld 0) (.var 7)) (.bin .cons (.bin (.add .i64) (.var 5) (.un (.fld 1) (.var 7))) .lnil)))]))) (.call [] 1 98 [(.var 1), (.var 6)] (.out 2 [(.un .mkagg (.bin .cons (.var 7) (.bin .cons (.var 5) .lnil)))]))))))))
theorem d88 : decompF C ⟨[.slice 107, .struct 75, .int .i64, .slice 39, .slice 39], [.struct 117], [false]⟩ Tryd.f88 h88 = some il88 := by kernel_rfl
theorem e88 (R : Fns) (a0 a1 a2 a3 a4 : D) : den C.G R il88 [a0, a1, a2, a3, a4] =
    (if ((D.asI (at_ (D.asA a1) 0)) == (21 : Int)) then
      if (decide (0 ≤ (0 : Int) ∧ (0 : Int) < (((D.asL (at_ (D.asA a1) 3))).length : Int))) then
      (R 88 [a0, (at_ (D.asL (at_ (D.asA a1) 3)) (Int.toNat (0 : Int))), a2, a3, a4]).bind fun r0 =>
      (if ((D.asI (at_ (D.asA (at_ (D.asA (at_ r0 0)) 0)) 1)) == (1 : Int)) then
          some (786436, [(D.int 1)])
        else
          some (786436, [(D.int 2)])).bind fun o1 =>
      if o1.1 = 786436 then
        if (decide (0 ≤ (D.asI (at_ o1.2 0)) ∧ (D.asI (at_ o1.2 0)) < (((D.asL (at_ (D.asA a1) 3))).length : Int))) then
        (R 88 [a0, (at_ (D.asL (at_ (D.asA a1) 3)) (Int.toNat (D.asI (at_ o1.2 0)))), a2, a3, a4]).bind fun r2 =>
        some (2, [(D.agg ((at_ (D.asA (at_ r2 0)) 0) :: ((D.int (IntKind.wrap .i64 ((IntKind.wrap .i64 ((1 : Int) + (D.asI (at_ (D.asA (at_ r0 0)) 1)))) + (D.asI (at_ (D.asA (at_ r2 0)) 1))))) :: ([] : List D))))])
        else none
      else some o1
      else none
    else
      (loopL (fun s1 =>
          if (decide ((D.asI (at_ s1 0)) < (((D.asL (at_ (D.asA a1) 3))).length : Int))) then
            if (decide (0 ≤ (D.asI (at_ s1 0)) ∧ (D.asI (at_ s1 0)) < (((D.asL (at_ (D.asA a1) 3))).length : Int))) then
            (R 88 [a0, (at_ (D.asL (at_ (D.asA a1) 3)) (Int.toNat (D.asI (at_ s1 0)))), a2, a3, a4]).bind fun r2 =>
            if (D.asB (U2.ev (.fits 34359738368) (D.int (((D.asL (at_ s1 2))).length : Int)) (D.int ((((at_ (D.asA (at_ r2 0)) 0) :: ([] : List D))).length : Int)))) then
            some (0, [(D.int (IntKind.wrap .i64 ((D.asI (at_ s1 0)) + (1 : Int)))), (D.int (IntKind.wrap .i64 ((D.asI (at_ s1 1)) + (D.asI (at_ (D.asA (at_ r2 0)) 1))))), (D.list ((D.asL (at_ s1 2)) ++ [(at_ (D.asA (at_ r2 0)) 0)]))])
            else none
            else none
          else
            some (1507334, [(at_ s1 1), (at_ s1 2)])) [(D.int 0), (D.int 1), (D.list [])]).bind fun o0 =>
      if o0.1 = 1507334 then
        if ((D.asI (at_ (D.asA a1) 0)) == (3 : Int)) then
          if (decide (0 ≤ (D.asI (at_ (D.asA a1) 1)) ∧ (D.asI (at_ (D.asA a1) 1)) < (((D.asL a3)).length : Int))) then
          some (2, [(D.agg ((at_ (D.asL a3) (Int.toNat (D.asI (at_ (D.asA a1) 1)))) :: ((at_ o0.2 0) :: ([] : List D))))])
          else none
        else
          if ((D.asI (at_ (D.asA a1) 0)) == (4 : Int)) then
            if (decide (0 ≤ (D.asI (at_ (D.asA a1) 1)) ∧ (D.asI (at_ (D.asA a1) 1)) < (((D.asL a4)).length : Int))) then
            some (2, [(D.agg ((at_ (D.asL a4) (Int.toNat (D.asI (at_ (D.asA a1) 1)))) :: ((at_ o0.2 0) :: ([] : List D))))])
            else none
          else
            if ((D.asI (at_ (D.asA a1) 0)) == (5 : Int)) then
              some (2, [(D.agg ((D.agg ((D.int 0) :: (a2 :: ((D.str []) :: ([] : List D))))) :: ((at_ o0.2 0) :: ([] : List D))))])
            else
              if ((D.asI (at_ (D.asA a1) 0)) == (22 : Int)) then
                if (decide (0 ≤ (D.asI (at_ (D.asA a1) 1)) ∧ (D.asI (at_ (D.asA a1) 1)) < (((D.asL a0)).length : Int))) then
                (R 88 [a0, (at_ (D.asA (at_ (D.asL a0) (Int.toNat (D.asI (at_ (D.asA a1) 1))))) 3), a2, (D.list []), (at_ o0.2 1)]).bind fun r1 =>
                some (2, [(D.agg ((at_ (D.asA (at_ r1 0)) 0) :: ((D.int (IntKind.wrap .i64 ((D.asI (at_ o0.2 0)) + (D.asI (at_ (D.asA (at_ r1 0)) 1))))) :: ([] : List D))))])
                else none
              else
                (R 98 [a1, (at_ o0.2 1)]).bind fun r1 =>
                some (2, [(D.agg ((at_ r1 0) :: ((at_ o0.2 0) :: ([] : List D))))])
      else some o0 : Option Out) := by kernel_rfl
-- slices.IndexFunc[[]errata/api.Value,errata/api.Value]
def h92 : List (Nat × List (Nat × Tm × Nat)) := [(5, [(0, ⟨[(0, (.dat (.slice 39) (.var 0))), (1, (.dat (.func 88) (.var 1))), (7, (.dat (.int .i64) (.un .len (.var 0)))), (8, (.dat (.int .i64) (.var 2))), (4, (.dat (.int .i64) (.int 0)))], []⟩, 1), (3, ⟨[(4, (.dat (.int .i64) (.int 0)))], []⟩, 0)])]
def il92 : IL := (.bindc (.loop [(.int 0)] (.ite (.bin .ilt (.var 2) (.un .len (.var 0))) (.chk (.bin .inb (.un .len (.var 0)) (.var 2)) (.callv [] 1 (.var 1) [(.bin .idx (.var 0) (.var 2))] (.ite (.var 3) (.out 2 [(.var 2)]) (.out 0 [(.bin (.add .i64) (.var 2) (.int 1))])))) (.out 327686 []))) 327686 0 (.out 2 [(.int (-1))]))
theorem d92 : decompF C ⟨[.slice 39, .func 88], [.int .i64], [false]⟩ Tryd.f92 h92 = some il92 := by kernel_rfl
theorem e92 (R : Fns) (a0 a1 : D) : den C.G R il92 [a0, a1] =
    ((loopL (fun s1 =>
        if (decide ((D.asI (at_ s1 0)) < (((D.asL a0)).length : Int))) then
          if (decide (0 ≤ (D.asI (at_ s1 0)) ∧ (D.asI (at_ s1 0)) < (((D.asL a0)).length : Int))) then
          (callD R a1 [(at_ (D.asL a0) (Int.toNat (D.asI (at_ s1 0))))]).bind fun r2 =>
          if (D.asB (at_ r2 0)) then
            some (2, [(at_ s1 0)])
          else
            some (0, [(D.int (IntKind.wrap .i64 ((D.asI (at_ s1 0)) + (1 : Int))))])
          else none
        else
          some (327686, [])) [(D.int 0)]).bind fun o0 =>
    if o0.1 = 327686 then
      some (2, [(D.int (-1))])
    else some o0 : Option Out) := by kernel_rfl
-- errata/errataref16.apply
def h98 : List (Nat × List (Nat × Tm × Nat)) := []
def il98 : IL := (.ite (.bin .ieq (.un (.fld 0) (.var 0)) (.int 0)) (.out 2 [(.un .mkagg (.bin .cons (.int 0) (.bin .cons (.un (.fld 1) (.var 0)) (.bin .cons (.str []) .lnil))))]) (.ite (.bin .ieq (.un (.fld 0) (.var 0)) (.int 1)) (.out 2 [(.un .mkagg (.bin .cons (.int 1) (.bin .cons (.int 0) (.bin .cons (.un (.fld 2) (.var 0)) .lnil))))]) (.ite (.bin .ieq (.un (.fld 0) (.var 0)) (.int 2)) (.call [] 1 106 [(.bin .ieq (.un (.fld 1) (.var 0)) (.int 1))] (.out 2 [(.var 2)])) (.ite (.bin .ieq (.un (.fld 0) (.var 0)) (.int 6)) (.chk (.bin .inb (.un .len (.var 1)) (.int 0)) (.call [] 1 106 [(.bin .ieq (.un (.fld 1) (.bin .idx (.var 1) (.int 0))) (.int 0))] (.out 2 [(.var 2)]))) (.ite (.bin .ieq (.un (.fld 0) (.var 0)) (.int 7)) (.chk (.bin .inb (.un .len (.var 1)) (.int 0)) (.out 2 [(.un .mkagg (.bin .cons (.int 0) (.bin .cons (.un (.neg .i64) (.un (.fld 1) (.bin .idx (.var 1) (.int 0)))) (.bin .cons (.str []) .lnil))))])) (.ite (.bin .ieq (.un (.fld 0) (.var 0)) (.int 20)) (.chk (.bin .inb (.un .len (.var 1)) (.int 0)) (.out 2 [(.un .mkagg (.bin .cons (.int 0) (.bin .cons (.un .slen (.un (.fld 2) (.bin .idx (.var 1) (.int 0)))) (.bin .cons (.str []) .lnil))))])) (.chk (.bin .inb (.un .len (.var 1)) (.int 0)) (.chk (.bin .inb (.un .len (.var 1)) (.int 1)) (.ite (.bin .ieq (.un (.fld 0) (.var 0)) (.int 8)) (.out 2 [(.un .mkagg (.bin .cons (.int 0) (.bin .cons (.bin (.add .i64) (.un (.fld 1) (.bin .idx (.var 1) (.int 0))) (.un (.fld 1) (.bin .idx (.var 1) (.int 1)))) (.bin .cons (.str []) .lnil))))]) (.ite (.bin .ieq (.un (.fld 0) (.var 0)) (.int 9)) (.out 2 [(.un .mkagg (.bin .cons (.int 0) (.bin .cons (.bin (.sub .i64) (.un (.fld 1) (.bin .idx (.var 1) (.int 0))) (.un (.fld 1) (.bin .idx (.var 1) (.int 1)))) (.bin .cons (.str []) .lnil))))]) (.ite (.bin .ieq (.un (.fld 0) (.var 0)) (.int 10)) (.out 2 [(.un .mkagg (.bin .cons (.int 0) (.bin .cons (.bin (.mul .i64) (.un (.fld 1) (.bin .idx (.var 1) (.int 0))) (.un (.fld 1) (.bin .idx (.var 1) (.int 1)))) (.bin .cons (.str []) .lnil))))]) (.ite (.bin .ieq (.un (.fld 0) (.var 0)) (.int 11)) (.ite (.bin .ieq (.un (.fld 1) (.bin .idx (.var 1) (.int 1))) (.int 0)) (.out 2 [(.un .mkagg (.bin .cons (.int 0) (.bin .cons (.int 0) (.bin .cons (.str []) .lnil))))]) (.chk (.un .not (.bin .ieq (.un (.fld 1) (.bin .idx (.var 1) (.int 1))) (.int 0))) (.out 2 [(.un .mkagg (.bin .cons (.int 0) (.bin .cons (.bin (.quo .i64) (.un (.fld 1) (.bin .idx (.var 1) (.int 0))) (.un (.fld 1) (.bin .idx (.var 1) (.int 1)))) (.bin .cons (.str []) .lnil))))]))) (.ite (.bin .ieq (.un (.fld 0) (.var 0)) (.int 12)) (.ite (.bin .ieq (.un (.fld 1) (.bin .idx (.var 1) (.int 1))) (.int 0)) (.out 2 [(.un .mkagg (.bin .cons (.int 0) (.bin .cons (.int 0) (.bin .cons (.str []) .lnil))))]) (.chk (.un .not (.bin .ieq (.un (.fld 1) (.bin .idx (.var 1) (.int 1))) (.int 0))) (.out 2 [(.un .mkagg (.bin .cons (.int 0) (.bin .cons (.bin (.rem .i64) (.un (.fld 1) (.bin .idx (.var 1) (.int 0))) (.un (.fld 1) (.bin .idx (.var 1) (.int 1)))) (.bin .cons (.str []) .lnil))))]))) (.ite (.bin .ieq (.un (.fld 0) (.var 0)) (.int 13)) (.call [] 1 106 [(.bin .deq (.bin .idx (.var 1) (.int 0)) (.bin .idx (.var 1) (.int 1)))] (.out 2 [(.var 2)])) (.ite (.bin .ieq (.un (.fld 0) (.var 0)) (.int 14)) (.call [] 1 106 [(.un .not (.bin .deq (.bin .idx (.var 1) (.int 0)) (.bin .idx (.var 1) (.int 1))))] (.out 2 [(.var 2)])) (.ite (.bin .ieq (.un (.fld 0) (.var 0)) (.int 15)) (.call [] 1 107 [(.bin .idx (.var 1) (.int 0)), (.bin .idx (.var 1) (.int 1))] (.call [] 1 106 [(.var 2)] (.out 2 [(.var 3)]))) (.ite (.bin .ieq (.un (.fld 0) (.var 0)) (.int 16)) (.call [] 1 107 [(.bin .idx (.var 1) (.int 1)), (.bin .idx (.var 1) (.int 0))] (.call [] 1 106 [(.un .not (.var 2))] (.out 2 [(.var 3)]))) (.ite (.bin .ieq (.un (.fld 0) (.var 0)) (.int 17)) (.call [] 1 106 [(.bin .and (.bin .ieq (.un (.fld 1) (.bin .idx (.var 1) (.int 0))) (.int 1)) (.bin .ieq (.un (.fld 1) (.bin .idx (.var 1) (.int 1))) (.int 1)))] (.out 2 [(.var 2)])) (.ite (.bin .ieq (.un (.fld 0) (.var 0)) (.int 18)) (.call [] 1 106 [(.bin .or (.bin .ieq (.un (.fld 1) (.bin .idx (.var 1) (.int 0))) (.int 1)) (.bin .ieq (.un (.fld 1) (.bin .idx (.var 1) (.int 1))) (.int 1)))] (.out 2 [(.var 2)])) (.chk (.bin (.fits 34359738368) (.un .slen (.un (.fld 2) (.bin .idx (.var 1) (.int 0)))) (.un .slen (.un (.fld 2) (.bin .idx (.var 1) (.int 1))))) (.chk (.tri .cut (.int 0) (.bin .imin (.un .slen (.bin .cat (.un (.fld 2) (.bin .idx (.var 1) (.int 0))) (.un (.fld 2) (.bin .idx (.var 1) (.int 1))))) (.int 200)) (.un .slen (.bin .cat (.un (.fld 2) (.bin .idx (.var 1) (.int 0))) (.un (.fld 2) (.bin .idx (.var 1) (.int 1)))))) (.out 2 [(.un .mkagg (.bin .cons (.int 1) (.bin .cons (.int 0) (.bin .cons (.bin .sdrop (.bin .stake (.bin .cat (.un (.fld 2) (.bin .idx (.var 1) (.int 0))) (.un (.fld 2) (.bin .idx (.var 1) (.int 1)))) (.bin .imin (.un .slen (.bin .cat (.un (.fld 2) (.bin .idx (.var 1) (.int 0))) (.un (.fld 2) (.bin .idx (.var 1) (.int 1))))) (.int 200))) (.int 0)) .lnil))))]))))))))))))))))))))))
theorem d98 : decompF C ⟨[.struct 75, .slice 39], [.struct 39], [false]⟩ Tryd.f98 h98 = some il98 := by kernel_rfl
theorem e98 (R : Fns) (a0 a1 : D) : den C.G R il98 [a0, a1] =
    (if ((D.asI (at_ (D.asA a0) 0)) == (0 : Int)) then
      some (2, [(D.agg ((D.int 0) :: ((at_ (D.asA a0) 1) :: ((D.str []) :: ([] : List D)))))])
    else
      if ((D.asI (at_ (D.asA a0) 0)) == (1 : Int)) then
        some (2, [(D.agg ((D.int 1) :: ((D.int 0) :: ((at_ (D.asA a0) 2) :: ([] : List D)))))])
      else
        if ((D.asI (at_ (D.asA a0) 0)) == (2 : Int)) then
          (R 106 [(D.bool ((D.asI (at_ (D.asA a0) 1)) == (1 : Int)))]).bind fun r0 =>
          some (2, [(at_ r0 0)])
        else
          if ((D.asI (at_ (D.asA a0) 0)) == (6 : Int)) then
            if (decide (0 ≤ (0 : Int) ∧ (0 : Int) < (((D.asL a1)).length : Int))) then
            (R 106 [(D.bool ((D.asI (at_ (D.asA (at_ (D.asL a1) (Int.toNat (0 : Int)))) 1)) == (0 : Int)))]).bind fun r0 =>
            some (2, [(at_ r0 0)])
            else none
          else
            if ((D.asI (at_ (D.asA a0) 0)) == (7 : Int)) then
              if (decide (0 ≤ (0 : Int) ∧ (0 : Int) < (((D.asL a1)).length : Int))) then
              some (2, [(D.agg ((D.int 0) :: ((D.int (IntKind.wrap .i64 (0 - (D.asI (at_ (D.asA (at_ (D.asL a1) (Int.toNat (0 : Int)))) 1))))) :: ((D.str []) :: ([] : List D)))))])
              else none
            else
              if ((D.asI (at_ (D.asA a0) 0)) == (20 : Int)) then
                if (decide (0 ≤ (0 : Int) ∧ (0 : Int) < (((D.asL a1)).length : Int))) then
                some (2, [(D.agg ((D.int 0) :: ((D.int (((D.asS (at_ (D.asA (at_ (D.asL a1) (Int.toNat (0 : Int)))) 2))).length : Int)) :: ((D.str []) :: ([] : List D)))))])
                else none
              else
                if (decide (0 ≤ (0 : Int) ∧ (0 : Int) < (((D.asL a1)).length : Int))) then
                if (decide (0 ≤ (1 : Int) ∧ (1 : Int) < (((D.asL a1)).length : Int))) then
                if ((D.asI (at_ (D.asA a0) 0)) == (8 : Int)) then
                  some (2, [(D.agg ((D.int 0) :: ((D.int (IntKind.wrap .i64 ((D.asI (at_ (D.asA (at_ (D.asL a1) (Int.toNat (0 : Int)))) 1)) + (D.asI (at_ (D.asA (at_ (D.asL a1) (Int.toNat (1 : Int)))) 1))))) :: ((D.str []) :: ([] : List D)))))])
                else
                  if ((D.asI (at_ (D.asA a0) 0)) == (9 : Int)) then
                    some (2, [(D.agg ((D.int 0) :: ((D.int (IntKind.wrap .i64 ((D.asI (at_ (D.asA (at_ (D.asL a1) (Int.toNat (0 : Int)))) 1)) - (D.asI (at_ (D.asA (at_ (D.asL a1) (Int.toNat (1 : Int)))) 1))))) :: ((D.str []) :: ([] : List D)))))])
                  else
                    if ((D.asI (at_ (D.asA a0) 0)) == (10 : Int)) then
                      some (2, [(D.agg ((D.int 0) :: ((D.int (IntKind.wrap .i64 ((D.asI (at_ (D.asA (at_ (D.asL a1) (Int.toNat (0 : Int)))) 1)) * (D.asI (at_ (D.asA (at_ (D.asL a1) (Int.toNat (1 : Int)))) 1))))) :: ((D.str []) :: ([] : List D)))))])
                    else
                      if ((D.asI (at_ (D.asA a0) 0)) == (11 : Int)) then
                        if ((D.asI (at_ (D.asA (at_ (D.asL a1) (Int.toNat (1 : Int)))) 1)) == (0 : Int)) then
                          some (2, [(D.agg ((D.int 0) :: ((D.int 0) :: ((D.str []) :: ([] : List D)))))])
                        else
                          if (!((D.asI (at_ (D.asA (at_ (D.asL a1) (Int.toNat (1 : Int)))) 1)) == (0 : Int))) then
                          some (2, [(D.agg ((D.int 0) :: ((D.int (IntKind.wrap .i64 (Int.tdiv (D.asI (at_ (D.asA (at_ (D.asL a1) (Int.toNat (0 : Int)))) 1)) (D.asI (at_ (D.asA (at_ (D.asL a1) (Int.toNat (1 : Int)))) 1))))) :: ((D.str []) :: ([] : List D)))))])
                          else none
                      else
                        if ((D.asI (at_ (D.asA a0) 0)) == (12 : Int)) then
                          if ((D.asI (at_ (D.asA (at_ (D.asL a1) (Int.toNat (1 : Int)))) 1)) == (0 : Int)) then
                            some (2, [(D.agg ((D.int 0) :: ((D.int 0) :: ((D.str []) :: ([] : List D)))))])
                          else
                            if (!((D.asI (at_ (D.asA (at_ (D.asL a1) (Int.toNat (1 : Int)))) 1)) == (0 : Int))) then
                            some (2, [(D.agg ((D.int 0) :: ((D.int (Int.tmod (D.asI (at_ (D.asA (at_ (D.asL a1) (Int.toNat (0 : Int)))) 1)) (D.asI (at_ (D.asA (at_ (D.asL a1) (Int.toNat (1 : Int)))) 1)))) :: ((D.str []) :: ([] : List D)))))])
                            else none
                        else
                          if ((D.asI (at_ (D.asA a0) 0)) == (13 : Int)) then
                            (R 106 [(D.bool (D.beq (at_ (D.asL a1) (Int.toNat (0 : Int))) (at_ (D.asL a1) (Int.toNat (1 : Int)))))]).bind fun r0 =>
                            some (2, [(at_ r0 0)])
                          else
                            if ((D.asI (at_ (D.asA a0) 0)) == (14 : Int)) then
                              (R 106 [(D.bool (!(D.beq (at_ (D.asL a1) (Int.toNat (0 : Int))) (at_ (D.asL a1) (Int.toNat (1 : Int))))))]).bind fun r0 =>
                              some (2, [(at_ r0 0)])
                            else
                              if ((D.asI (at_ (D.asA a0) 0)) == (15 : Int)) then
                                (R 107 [(at_ (D.asL a1) (Int.toNat (0 : Int))), (at_ (D.asL a1) (Int.toNat (1 : Int)))]).bind fun r0 =>
                                (R 106 [(at_ r0 0)]).bind fun r1 =>
                                some (2, [(at_ r1 0)])
                              else
                                if ((D.asI (at_ (D.asA a0) 0)) == (16 : Int)) then
                                  (R 107 [(at_ (D.asL a1) (Int.toNat (1 : Int))), (at_ (D.asL a1) (Int.toNat (0 : Int)))]).bind fun r0 =>
                                  (R 106 [(D.bool (!(D.asB (at_ r0 0))))]).bind fun r1 =>
                                  some (2, [(at_ r1 0)])
                                else
                                  if ((D.asI (at_ (D.asA a0) 0)) == (17 : Int)) then
                                    (R 106 [(D.bool (((D.asI (at_ (D.asA (at_ (D.asL a1) (Int.toNat (0 : Int)))) 1)) == (1 : Int)) && ((D.asI (at_ (D.asA (at_ (D.asL a1) (Int.toNat (1 : Int)))) 1)) == (1 : Int))))]).bind fun r0 =>
                                    some (2, [(at_ r0 0)])
                                  else
                                    if ((D.asI (at_ (D.asA a0) 0)) == (18 : Int)) then
                                      (R 106 [(D.bool (((D.asI (at_ (D.asA (at_ (D.asL a1) (Int.toNat (0 : Int)))) 1)) == (1 : Int)) || ((D.asI (at_ (D.asA (at_ (D.asL a1) (Int.toNat (1 : Int)))) 1)) == (1 : Int))))]).bind fun r0 =>
                                      some (2, [(at_ r0 0)])
                                    else
                                      if (D.asB (U2.ev (.fits 34359738368) (D.int (((D.asS (at_ (D.asA (at_ (D.asL a1) (Int.toNat (0 : Int)))) 2))).length : Int)) (D.int (((D.asS (at_ (D.asA (at_ (D.asL a1) (Int.toNat (1 : Int)))) 2))).length : Int)))) then
                                      if (decide (0 ≤ (0 : Int) ∧ (0 : Int) ≤ (if (200 : Int) < ((((D.asS (at_ (D.asA (at_ (D.asL a1) (Int.toNat (0 : Int)))) 2)) ++ (D.asS (at_ (D.asA (at_ (D.asL a1) (Int.toNat (1 : Int)))) 2)))).length : Int) then (200 : Int) else ((((D.asS (at_ (D.asA (at_ (D.asL a1) (Int.toNat (0 : Int)))) 2)) ++ (D.asS (at_ (D.asA (at_ (D.asL a1) (Int.toNat (1 : Int)))) 2)))).length : Int)) ∧ (if (200 : Int) < ((((D.asS (at_ (D.asA (at_ (D.asL a1) (Int.toNat (0 : Int)))) 2)) ++ (D.asS (at_ (D.asA (at_ (D.asL a1) (Int.toNat (1 : Int)))) 2)))).length : Int) then (200 : Int) else ((((D.asS (at_ (D.asA (at_ (D.asL a1) (Int.toNat (0 : Int)))) 2)) ++ (D.asS (at_ (D.asA (at_ (D.asL a1) (Int.toNat (1 : Int)))) 2)))).length : Int)) ≤ ((((D.asS (at_ (D.asA (at_ (D.asL a1) (Int.toNat (0 : Int)))) 2)) ++ (D.asS (at_ (D.asA (at_ (D.asL a1) (Int.toNat (1 : Int)))) 2)))).length : Int))) then
                                      some (2, [(D.agg ((D.int 1) :: ((D.int 0) :: ((D.str ((((((D.asS (at_ (D.asA (at_ (D.asL a1) (Int.toNat (0 : Int)))) 2)) ++ (D.asS (at_ (D.asA (at_ (D.asL a1) (Int.toNat (1 : Int)))) 2)))).take (Int.toNat (if (200 : Int) < ((((D.asS (at_ (D.asA (at_ (D.asL a1) (Int.toNat (0 : Int)))) 2)) ++ (D.asS (at_ (D.asA (at_ (D.asL a1) (Int.toNat (1 : Int)))) 2)))).length : Int) then (200 : Int) else ((((D.asS (at_ (D.asA (at_ (D.asL a1) (Int.toNat (0 : Int)))) 2)) ++ (D.asS (at_ (D.asA (at_ (D.asL a1) (Int.toNat (1 : Int)))) 2)))).length : Int))))).drop (Int.toNat 0))) :: ([] : List D)))))])
                                      else none
                                      else none
                else none
                else none : Option Out) := by kernel_rfl
-- errata/errataref16.truth
def h106 : List (Nat × List (Nat × Tm × Nat)) := []
def il106 : IL := (.ite (.var 0) (.out 2 [(.un .mkagg (.bin .cons (.int 2) (.bin .cons (.int 1) (.bin .cons (.str []) .lnil))))]) (.out 2 [(.un .mkagg (.bin .cons (.int 2) (.bin .cons (.int 0) (.bin .cons (.str []) .lnil))))]))
theorem d106 : decompF C ⟨[.bool], [.struct 39], [false]⟩ Tryd.f106 h106 = some il106 := by kernel_rfl
theorem e106 (R : Fns) (a0 : D) : den C.G R il106 [a0] =
    (if (D.asB a0) then
      some (2, [(D.agg ((D.int 2) :: ((D.int 1) :: ((D.str []) :: ([] : List D)))))])
    else
      some (2, [(D.agg ((D.int 2) :: ((D.int 0) :: ((D.str []) :: ([] : List D)))))]) : Option Out) := by kernel_rfl
end Go.Proofs.YtlbckmllpciglaaDoor
