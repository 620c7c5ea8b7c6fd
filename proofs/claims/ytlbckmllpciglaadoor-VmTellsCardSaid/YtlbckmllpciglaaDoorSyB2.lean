/- Some functions' texts, and what they mean. Printed by a program of this claim's author. -/
import Derived.Test.YtlbckmllpciglaaDoorSyA
set_option linter.unusedVariables false
set_option linter.unusedSimpArgs false
set_option linter.all false
namespace Go.Proofs.YtlbckmllpciglaaDoor
open Go Sy
set_option maxRecDepth 100000
-- errata/erratalaw27.VmTrims
def h5 : List (Nat × List (Nat × Tm × Nat)) := []
def il5 : IL := (.call [] 1 6 [] (.call [] 1 7 [(.var 0), (.var 1), (.var 2)] (.call [((.un .not (.var 4)), false)] 1 8 [(.var 1), (.var 2)] (.ite (.bin .or (.un .not (.var 4)) (.un .not (.var 5))) (.out 2 [(.var 3)]) (.call [] 2 9 [(.var 0), (.var 1)] (.ite (.un .not (.bin .ieq (.var 7) (.int 0))) (.out 2 [(.var 3)]) (.call [] 1 19 [(.var 0)] (.call [] 1 20 [(.var 0)] (.call [] 2 10 [(.var 0), (.var 1), (.var 2)] (.call [] 2 10 [(.var 8), (.var 1), (.var 2)] (.call [] 2 10 [(.var 9), (.var 1), (.var 2)] (.call [((.bin .and (.bin .and (.bin .and (.var 3) (.bin .ieq (.var 11) (.int 0))) (.bin .ieq (.var 13) (.int 0))) (.bin .ieq (.var 15) (.int 0))), true)] 1 11 [(.var 10), (.var 12)] (.call [((.bin .and (.bin .and (.bin .and (.bin .and (.var 3) (.bin .ieq (.var 11) (.int 0))) (.bin .ieq (.var 13) (.int 0))) (.bin .ieq (.var 15) (.int 0))) (.var 16)), true)] 1 11 [(.var 10), (.var 14)] (.call [((.bin .and (.bin .and (.bin .and (.bin .and (.bin .and (.var 3) (.bin .ieq (.var 11) (.int 0))) (.bin .ieq (.var 13) (.int 0))) (.bin .ieq (.var 15) (.int 0))) (.var 16)) (.var 17)), true)] 1 18 [(.var 8), (.un .len (.var 2))] (.call [((.bin .and (.bin .and (.bin .and (.bin .and (.bin .and (.var 3) (.bin .ieq (.var 11) (.int 0))) (.bin .ieq (.var 13) (.int 0))) (.bin .ieq (.var 15) (.int 0))) (.var 16)) (.var 17)), true)] 1 18 [(.var 0), (.un .len (.var 2))] (.call [((.bin .and (.bin .and (.bin .and (.bin .and (.bin .and (.bin .and (.var 3) (.bin .ieq (.var 11) (.int 0))) (.bin .ieq (.var 13) (.int 0))) (.bin .ieq (.var 15) (.int 0))) (.var 16)) (.var 17)) (.bin .ile (.var 18) (.var 19))), true)] 1 18 [(.var 9), (.un .len (.var 2))] (.call [((.bin .and (.bin .and (.bin .and (.bin .and (.bin .and (.bin .and (.var 3) (.bin .ieq (.var 11) (.int 0))) (.bin .ieq (.var 13) (.int 0))) (.bin .ieq (.var 15) (.int 0))) (.var 16)) (.var 17)) (.bin .ile (.var 18) (.var 19))), true)] 1 18 [(.var 8), (.un .len (.var 2))] (.out 2 [(.bin .and (.bin .and (.bin .and (.bin .and (.bin .and (.bin .and (.bin .and (.var 3) (.bin .ieq (.var 11) (.int 0))) (.bin .ieq (.var 13) (.int 0))) (.bin .ieq (.var 15) (.int 0))) (.var 16)) (.var 17)) (.bin .ile (.var 18) (.var 19))) (.bin .ieq (.var 20) (.var 21)))]))))))))))))))))))
theorem d5 : decompF C ⟨[.struct 25, .slice 3, .slice 37], [.bool], [false]⟩ Tryd.f5 h5 = some il5 := by kernel_rfl
theorem e5 (R : Fns) (a0 a1 a2 : D) : den C.G R il5 [a0, a1, a2] =
    ((R 6 []).bind fun r0 =>
    (R 7 [a0, a1, a2]).bind fun r1 =>
    callIf (((!(D.asB (at_ r1 0))) == false) && true) (R 8 [a1, a2]) fun r2 =>
    if ((!(D.asB (at_ r1 0))) || (!(D.asB (at_ r2 0)))) then
      some (2, [(at_ r0 0)])
    else
      (R 9 [a0, a1]).bind fun r3 =>
      if (!((D.asI (at_ r3 1)) == (0 : Int))) then
        some (2, [(at_ r0 0)])
      else
        (R 19 [a0]).bind fun r4 =>
        (R 20 [a0]).bind fun r5 =>
        (R 10 [a0, a1, a2]).bind fun r6 =>
        (R 10 [(at_ r4 0), a1, a2]).bind fun r7 =>
        (R 10 [(at_ r5 0), a1, a2]).bind fun r8 =>
        callIf ((((((D.asB (at_ r0 0)) && ((D.asI (at_ r6 1)) == (0 : Int))) && ((D.asI (at_ r7 1)) == (0 : Int))) && ((D.asI (at_ r8 1)) == (0 : Int))) == true) && true) (R 11 [(at_ r6 0), (at_ r7 0)]) fun r9 =>
        callIf (((((((D.asB (at_ r0 0)) && ((D.asI (at_ r6 1)) == (0 : Int))) && ((D.asI (at_ r7 1)) == (0 : Int))) && ((D.asI (at_ r8 1)) == (0 : Int))) && (D.asB (at_ r9 0))) == true) && true) (R 11 [(at_ r6 0), (at_ r8 0)]) fun r10 =>
        callIf ((((((((D.asB (at_ r0 0)) && ((D.asI (at_ r6 1)) == (0 : Int))) && ((D.asI (at_ r7 1)) == (0 : Int))) && ((D.asI (at_ r8 1)) == (0 : Int))) && (D.asB (at_ r9 0))) && (D.asB (at_ r10 0))) == true) && true) (R 18 [(at_ r4 0), (D.int (((D.asL a2)).length : Int))]) fun r11 =>
        callIf ((((((((D.asB (at_ r0 0)) && ((D.asI (at_ r6 1)) == (0 : Int))) && ((D.asI (at_ r7 1)) == (0 : Int))) && ((D.asI (at_ r8 1)) == (0 : Int))) && (D.asB (at_ r9 0))) && (D.asB (at_ r10 0))) == true) && true) (R 18 [a0, (D.int (((D.asL a2)).length : Int))]) fun r12 =>
        callIf (((((((((D.asB (at_ r0 0)) && ((D.asI (at_ r6 1)) == (0 : Int))) && ((D.asI (at_ r7 1)) == (0 : Int))) && ((D.asI (at_ r8 1)) == (0 : Int))) && (D.asB (at_ r9 0))) && (D.asB (at_ r10 0))) && (decide ((D.asI (at_ r11 0)) ≤ (D.asI (at_ r12 0))))) == true) && true) (R 18 [(at_ r5 0), (D.int (((D.asL a2)).length : Int))]) fun r13 =>
        callIf (((((((((D.asB (at_ r0 0)) && ((D.asI (at_ r6 1)) == (0 : Int))) && ((D.asI (at_ r7 1)) == (0 : Int))) && ((D.asI (at_ r8 1)) == (0 : Int))) && (D.asB (at_ r9 0))) && (D.asB (at_ r10 0))) && (decide ((D.asI (at_ r11 0)) ≤ (D.asI (at_ r12 0))))) == true) && true) (R 18 [(at_ r4 0), (D.int (((D.asL a2)).length : Int))]) fun r14 =>
        some (2, [(D.bool ((((((((D.asB (at_ r0 0)) && ((D.asI (at_ r6 1)) == (0 : Int))) && ((D.asI (at_ r7 1)) == (0 : Int))) && ((D.asI (at_ r8 1)) == (0 : Int))) && (D.asB (at_ r9 0))) && (D.asB (at_ r10 0))) && (decide ((D.asI (at_ r11 0)) ≤ (D.asI (at_ r12 0))))) && ((D.asI (at_ r13 0)) == (D.asI (at_ r14 0)))))]) : Option Out) := by kernel_rfl
-- errata/errataref27.Run
def h12 : List (Nat × List (Nat × Tm × Nat)) := [(17, [(0, ⟨[(3, (.bptr 24 [] 25)), (2, (.dat (.slice 37) (.var 2))), (11, (.dat (.int .i64) (.var 6))), (10, (.sli 360 0 39)), (7, (.dat (.int .i64) (.int 0))), (6, (.nils 39))], [(24, (.box 25 (.dat (.struct 25) (.var 0)))), (360, (.arr 39 (.var 7) 0))]⟩, 2), (3, ⟨[(10, (.sli 360 0 39)), (7, (.dat (.int .i64) (.int 0))), (6, (.nils 39))], [(360, (.arr 39 (.var 6) 0))]⟩, 1)])]
def il12 : IL := (.call [] 2 30 [(.var 0), (.var 1)] (.ite (.un .not (.bin .ieq (.var 4) (.int 0))) (.out 2 [.lnil, (.var 4)]) (.call [] 1 8 [(.var 1), (.var 2)] (.ite (.un .not (.var 5)) (.out 2 [.lnil, (.int 16)]) (.bindc (.loop [(.int 0), .lnil] (.ite (.bin .ilt (.var 6) (.un .len (.var 2))) (.chk (.bin .inb (.un .len (.var 2)) (.var 6)) (.chk (.bin .inb (.un .len (.var 2)) (.var 6)) (.call [] 1 31 [(.var 0), (.un (.fld 0) (.bin .idx (.var 2) (.var 6))), (.un (.fld 1) (.bin .idx (.var 2) (.var 6)))] (.chk (.bin (.fits 34359738368) (.un .len (.var 7)) (.un .len (.bin .cons (.var 8) .lnil))) (.out 0 [(.bin (.add .i64) (.var 6) (.int 1)), (.bin .snoc (.var 7) (.var 8))]))))) (.out 1114118 [(.var 7)]))) 1114118 1 (.out 2 [(.var 6), (.int 0)]))))))
theorem d12 : decompF C ⟨[.struct 25, .slice 3, .slice 37], [.slice 39, .int .i64], [true, false]⟩ Tryd.f12 h12 = some il12 := by kernel_rfl
theorem e12 (R : Fns) (a0 a1 a2 : D) : den C.G R il12 [a0, a1, a2] =
    ((R 30 [a0, a1]).bind fun r0 =>
    if (!((D.asI (at_ r0 1)) == (0 : Int))) then
      some (2, [(D.list []), (at_ r0 1)])
    else
      (R 8 [a1, a2]).bind fun r1 =>
      if (!(D.asB (at_ r1 0))) then
        some (2, [(D.list []), (D.int 16)])
      else
        (loopL (fun s3 =>
            if (decide ((D.asI (at_ s3 0)) < (((D.asL a2)).length : Int))) then
              if (decide (0 ≤ (D.asI (at_ s3 0)) ∧ (D.asI (at_ s3 0)) < (((D.asL a2)).length : Int))) then
              if (decide (0 ≤ (D.asI (at_ s3 0)) ∧ (D.asI (at_ s3 0)) < (((D.asL a2)).length : Int))) then
              (R 31 [a0, (at_ (D.asA (at_ (D.asL a2) (Int.toNat (D.asI (at_ s3 0))))) 0), (at_ (D.asA (at_ (D.asL a2) (Int.toNat (D.asI (at_ s3 0))))) 1)]).bind fun r4 =>
              if (D.asB (U2.ev (.fits 34359738368) (D.int (((D.asL (at_ s3 1))).length : Int)) (D.int ((((at_ r4 0) :: ([] : List D))).length : Int)))) then
              some (0, [(D.int (IntKind.wrap .i64 ((D.asI (at_ s3 0)) + (1 : Int)))), (D.list ((D.asL (at_ s3 1)) ++ [(at_ r4 0)]))])
              else none
              else none
              else none
            else
              some (1114118, [(at_ s3 1)])) [(D.int 0), (D.list [])]).bind fun o2 =>
        if o2.1 = 1114118 then
          some (2, [(at_ o2.2 0), (D.int 0)])
        else some o2 : Option Out) := by kernel_rfl
-- errata/errataref27.Same
def h15 : List (Nat × List (Nat × Tm × Nat)) := [(9, [(0, ⟨[(1, (.dat (.slice 37) (.var 1))), (0, (.dat (.slice 37) (.var 0))), (5, (.dat (.int .i64) (.var 2))), (4, (.dat (.bool) (.bool false)))], []⟩, 1), (3, ⟨[(4, (.dat (.bool) (.bool false)))], []⟩, 0)])]
def il15 : IL := (.ite (.un .not (.bin .ieq (.un .len (.var 0)) (.un .len (.var 1)))) (.out 2 [(.bool false)]) (.bindc (.loop [(.int 0)] (.ite (.bin .ilt (.var 2) (.un .len (.var 0))) (.chk (.bin .inb (.un .len (.var 0)) (.var 2)) (.chk (.bin .inb (.un .len (.var 1)) (.var 2)) (.chk (.tri .ite (.un .not (.bin .ieq (.un (.fld 0) (.bin .idx (.var 0) (.var 2))) (.un (.fld 0) (.bin .idx (.var 1) (.var 2))))) (.bool true) (.bin .inb (.un .len (.var 0)) (.var 2))) (.chk (.tri .ite (.un .not (.bin .ieq (.un (.fld 0) (.bin .idx (.var 0) (.var 2))) (.un (.fld 0) (.bin .idx (.var 1) (.var 2))))) (.bool true) (.bin .inb (.un .len (.var 1)) (.var 2))) (.chk (.tri .ite (.bin .or (.un .not (.bin .ieq (.un (.fld 0) (.bin .idx (.var 0) (.var 2))) (.un (.fld 0) (.bin .idx (.var 1) (.var 2))))) (.un .not (.bin .ieq (.un (.fld 2) (.bin .idx (.var 0) (.var 2))) (.un (.fld 2) (.bin .idx (.var 1) (.var 2)))))) (.bool true) (.bin .inb (.un .len (.var 0)) (.var 2))) (.chk (.tri .ite (.bin .or (.un .not (.bin .ieq (.un (.fld 0) (.bin .idx (.var 0) (.var 2))) (.un (.fld 0) (.bin .idx (.var 1) (.var 2))))) (.un .not (.bin .ieq (.un (.fld 2) (.bin .idx (.var 0) (.var 2))) (.un (.fld 2) (.bin .idx (.var 1) (.var 2)))))) (.bool true) (.bin .inb (.un .len (.var 1)) (.var 2))) (.call [((.bin .or (.un .not (.bin .ieq (.un (.fld 0) (.bin .idx (.var 0) (.var 2))) (.un (.fld 0) (.bin .idx (.var 1) (.var 2))))) (.un .not (.bin .ieq (.un (.fld 2) (.bin .idx (.var 0) (.var 2))) (.un (.fld 2) (.bin .idx (.var 1) (.var 2)))))), false)] 1 11 [(.un (.fld 1) (.bin .idx (.var 0) (.var 2))), (.un (.fld 1) (.bin .idx (.var 1) (.var 2)))] (.ite (.bin .or (.bin .or (.un .not (.bin .ieq (.un (.fld 0) (.bin .idx (.var 0) (.var 2))) (.un (.fld 0) (.bin .idx (.var 1) (.var 2))))) (.un .not (.bin .ieq (.un (.fld 2) (.bin .idx (.var 0) (.var 2))) (.un (.fld 2) (.bin .idx (.var 1) (.var 2)))))) (.un .not (.var 3))) (.out 2 [(.bool false)]) (.out 0 [(.bin (.add .i64) (.var 2) (.int 1))]))))))))) (.out 589830 []))) 589830 0 (.out 2 [(.bool true)])))
theorem d15 : decompF C ⟨[.slice 37, .slice 37], [.bool], [false]⟩ Tryd.f15 h15 = some il15 := by kernel_rfl
theorem e15 (R : Fns) (a0 a1 : D) : den C.G R il15 [a0, a1] =
    (if (!((((D.asL a0)).length : Int) == (((D.asL a1)).length : Int))) then
      some (2, [(D.bool false)])
    else
      (loopL (fun s1 =>
          if (decide ((D.asI (at_ s1 0)) < (((D.asL a0)).length : Int))) then
            if (decide (0 ≤ (D.asI (at_ s1 0)) ∧ (D.asI (at_ s1 0)) < (((D.asL a0)).length : Int))) then
            if (decide (0 ≤ (D.asI (at_ s1 0)) ∧ (D.asI (at_ s1 0)) < (((D.asL a1)).length : Int))) then
            if (D.asB (if (!((D.asI (at_ (D.asA (at_ (D.asL a0) (Int.toNat (D.asI (at_ s1 0))))) 0)) == (D.asI (at_ (D.asA (at_ (D.asL a1) (Int.toNat (D.asI (at_ s1 0))))) 0)))) then (D.bool true) else (D.bool (decide (0 ≤ (D.asI (at_ s1 0)) ∧ (D.asI (at_ s1 0)) < (((D.asL a0)).length : Int)))))) then
            if (D.asB (if (!((D.asI (at_ (D.asA (at_ (D.asL a0) (Int.toNat (D.asI (at_ s1 0))))) 0)) == (D.asI (at_ (D.asA (at_ (D.asL a1) (Int.toNat (D.asI (at_ s1 0))))) 0)))) then (D.bool true) else (D.bool (decide (0 ≤ (D.asI (at_ s1 0)) ∧ (D.asI (at_ s1 0)) < (((D.asL a1)).length : Int)))))) then
            if (D.asB (if ((!((D.asI (at_ (D.asA (at_ (D.asL a0) (Int.toNat (D.asI (at_ s1 0))))) 0)) == (D.asI (at_ (D.asA (at_ (D.asL a1) (Int.toNat (D.asI (at_ s1 0))))) 0)))) || (!((D.asI (at_ (D.asA (at_ (D.asL a0) (Int.toNat (D.asI (at_ s1 0))))) 2)) == (D.asI (at_ (D.asA (at_ (D.asL a1) (Int.toNat (D.asI (at_ s1 0))))) 2))))) then (D.bool true) else (D.bool (decide (0 ≤ (D.asI (at_ s1 0)) ∧ (D.asI (at_ s1 0)) < (((D.asL a0)).length : Int)))))) then
            if (D.asB (if ((!((D.asI (at_ (D.asA (at_ (D.asL a0) (Int.toNat (D.asI (at_ s1 0))))) 0)) == (D.asI (at_ (D.asA (at_ (D.asL a1) (Int.toNat (D.asI (at_ s1 0))))) 0)))) || (!((D.asI (at_ (D.asA (at_ (D.asL a0) (Int.toNat (D.asI (at_ s1 0))))) 2)) == (D.asI (at_ (D.asA (at_ (D.asL a1) (Int.toNat (D.asI (at_ s1 0))))) 2))))) then (D.bool true) else (D.bool (decide (0 ≤ (D.asI (at_ s1 0)) ∧ (D.asI (at_ s1 0)) < (((D.asL a1)).length : Int)))))) then
            callIf ((((!((D.asI (at_ (D.asA (at_ (D.asL a0) (Int.toNat (D.asI (at_ s1 0))))) 0)) == (D.asI (at_ (D.asA (at_ (D.asL a1) (Int.toNat (D.asI (at_ s1 0))))) 0)))) || (!((D.asI (at_ (D.asA (at_ (D.asL a0) (Int.toNat (D.asI (at_ s1 0))))) 2)) == (D.asI (at_ (D.asA (at_ (D.asL a1) (Int.toNat (D.asI (at_ s1 0))))) 2))))) == false) && true) (R 11 [(at_ (D.asA (at_ (D.asL a0) (Int.toNat (D.asI (at_ s1 0))))) 1), (at_ (D.asA (at_ (D.asL a1) (Int.toNat (D.asI (at_ s1 0))))) 1)]) fun r2 =>
            if (((!((D.asI (at_ (D.asA (at_ (D.asL a0) (Int.toNat (D.asI (at_ s1 0))))) 0)) == (D.asI (at_ (D.asA (at_ (D.asL a1) (Int.toNat (D.asI (at_ s1 0))))) 0)))) || (!((D.asI (at_ (D.asA (at_ (D.asL a0) (Int.toNat (D.asI (at_ s1 0))))) 2)) == (D.asI (at_ (D.asA (at_ (D.asL a1) (Int.toNat (D.asI (at_ s1 0))))) 2))))) || (!(D.asB (at_ r2 0)))) then
              some (2, [(D.bool false)])
            else
              some (0, [(D.int (IntKind.wrap .i64 ((D.asI (at_ s1 0)) + (1 : Int))))])
            else none
            else none
            else none
            else none
            else none
            else none
          else
            some (589830, [])) [(D.int 0)]).bind fun o0 =>
      if o0.1 = 589830 then
        some (2, [(D.bool true)])
      else some o0 : Option Out) := by kernel_rfl
-- errata/code.Verify$1
def h25 : List (Nat × List (Nat × Tm × Nat)) := []
def il25 : IL := (.out 2 [(.bin .or (.bin .ilt (.var 0) (.int 0)) (.bin .ile (.int 3) (.var 0)))])
theorem d25 : decompF C ⟨[.int .i64], [.bool], [false]⟩ Tryd.f25 h25 = some il25 := by kernel_rfl
theorem e25 (R : Fns) (a0 : D) : den C.G R il25 [a0] =
    (some (2, [(D.bool ((decide ((D.asI a0) < (0 : Int))) || (decide ((3 : Int) ≤ (D.asI a0)))))]) : Option Out) := by kernel_rfl
-- errata/errataref03.CompareRows
def h29 : List (Nat × List (Nat × Tm × Nat)) := [(5, [(0, ⟨[(5, (.dat (.int .i64) (.var 2))), (1, (.dat (.slice 39) (.var 1))), (0, (.dat (.slice 39) (.var 0))), (4, (.dat (.int .i64) (.int 0)))], []⟩, 1), (3, ⟨[(1, (.dat (.slice 39) (.var 1))), (0, (.dat (.slice 39) (.var 0))), (4, (.dat (.int .i64) (.int 0)))], []⟩, 0)])]
def il29 : IL := (.bindc (.loop [(.int 0)] (.ite (.bin .and (.bin .ilt (.var 2) (.un .len (.var 0))) (.bin .ilt (.var 2) (.un .len (.var 1)))) (.chk (.bin .inb (.un .len (.var 0)) (.var 2)) (.chk (.bin .inb (.un .len (.var 1)) (.var 2)) (.call [] 1 47 [(.bin .idx (.var 0) (.var 2)), (.bin .idx (.var 1) (.var 2))] (.ite (.un .not (.bin .ieq (.var 3) (.int 0))) (.out 2 [(.var 3)]) (.out 0 [(.bin (.add .i64) (.var 2) (.int 1))]))))) (.out 327686 []))) 327686 0 (.ite (.bin .ilt (.un .len (.var 0)) (.un .len (.var 1))) (.out 2 [(.int (-1))]) (.ite (.bin .ilt (.un .len (.var 1)) (.un .len (.var 0))) (.out 2 [(.int 1)]) (.out 2 [(.int 0)]))))
theorem d29 : decompF C ⟨[.slice 39, .slice 39], [.int .i64], [false]⟩ Tryd.f29 h29 = some il29 := by kernel_rfl
theorem e29 (R : Fns) (a0 a1 : D) : den C.G R il29 [a0, a1] =
    ((loopL (fun s1 =>
        if ((decide ((D.asI (at_ s1 0)) < (((D.asL a0)).length : Int))) && (decide ((D.asI (at_ s1 0)) < (((D.asL a1)).length : Int)))) then
          if (decide (0 ≤ (D.asI (at_ s1 0)) ∧ (D.asI (at_ s1 0)) < (((D.asL a0)).length : Int))) then
          if (decide (0 ≤ (D.asI (at_ s1 0)) ∧ (D.asI (at_ s1 0)) < (((D.asL a1)).length : Int))) then
          (R 47 [(at_ (D.asL a0) (Int.toNat (D.asI (at_ s1 0)))), (at_ (D.asL a1) (Int.toNat (D.asI (at_ s1 0))))]).bind fun r2 =>
          if (!((D.asI (at_ r2 0)) == (0 : Int))) then
            some (2, [(at_ r2 0)])
          else
            some (0, [(D.int (IntKind.wrap .i64 ((D.asI (at_ s1 0)) + (1 : Int))))])
          else none
          else none
        else
          some (327686, [])) [(D.int 0)]).bind fun o0 =>
    if o0.1 = 327686 then
      if (decide ((((D.asL a0)).length : Int) < (((D.asL a1)).length : Int))) then
        some (2, [(D.int (-1))])
      else
        if (decide ((((D.asL a1)).length : Int) < (((D.asL a0)).length : Int))) then
          some (2, [(D.int 1)])
        else
          some (2, [(D.int 0)])
    else some o0 : Option Out) := by kernel_rfl
-- slices.IndexFunc[[]int,int]
def h37 : List (Nat × List (Nat × Tm × Nat)) := [(5, [(0, ⟨[(0, (.dat (.slice 3) (.var 0))), (1, (.dat (.func 56) (.var 1))), (7, (.dat (.int .i64) (.un .len (.var 0)))), (8, (.dat (.int .i64) (.var 2))), (4, (.dat (.int .i64) (.int 0)))], []⟩, 1), (3, ⟨[(4, (.dat (.int .i64) (.int 0)))], []⟩, 0)])]
def il37 : IL := (.bindc (.loop [(.int 0)] (.ite (.bin .ilt (.var 2) (.un .len (.var 0))) (.chk (.bin .inb (.un .len (.var 0)) (.var 2)) (.callv [] 1 (.var 1) [(.bin .idx (.var 0) (.var 2))] (.ite (.var 3) (.out 2 [(.var 2)]) (.out 0 [(.bin (.add .i64) (.var 2) (.int 1))])))) (.out 327686 []))) 327686 0 (.out 2 [(.int (-1))]))
theorem d37 : decompF C ⟨[.slice 3, .func 56], [.int .i64], [false]⟩ Tryd.f37 h37 = some il37 := by kernel_rfl
theorem e37 (R : Fns) (a0 a1 : D) : den C.G R il37 [a0, a1] =
    ((loopL (fun s1 =>
        if (decide ((D.asI (at_ s1 0)) < (((D.asL a0)).length : Int))) then
          if (decide (0 ≤ (D.asI (at_ s1 0)) ∧ (D.asI (at_ s1 0)) < (((D.asL a0)).length : Int))) then
          (callD R a1 [(at_ (D.asL a0) (Int.toNat (D.asI (at_ s1 0))))]).bind fun r2 =>
          if (D.asB (at_ r2 0)) then
            some (2, [(at_ s1 0)])
          else
            some (0, [(D.int (IntKind.wrap .i64 ((D.asI (at_ s1 0)) + (1 : Int))))])
          else none
        else
          some (327686, [])) [(D.int 0)]).bind fun o0 =>
    if o0.1 = 327686 then
      some (2, [(D.int (-1))])
    else some o0 : Option Out) := by kernel_rfl
-- errata/value.RightRow
def h42 : List (Nat × List (Nat × Tm × Nat)) := []
def il42 : IL := (.call [((.bin .ile (.un .len (.var 0)) (.int 12)), true)] 1 59 [(.var 0)] (.out 2 [(.bin .and (.bin .ile (.un .len (.var 0)) (.int 12)) (.var 1))]))
theorem d42 : decompF C ⟨[.slice 39], [.bool], [false]⟩ Tryd.f42 h42 = some il42 := by kernel_rfl
theorem e42 (R : Fns) (a0 : D) : den C.G R il42 [a0] =
    (callIf (((decide ((((D.asL a0)).length : Int) ≤ (12 : Int))) == true) && true) (R 59 [a0]) fun r0 =>
    some (2, [(D.bool ((decide ((((D.asL a0)).length : Int) ≤ (12 : Int))) && (D.asB (at_ r0 0))))]) : Option Out) := by kernel_rfl
-- (*errata/vm.machine).source
def h43 : List (Nat × List (Nat × Tm × Nat)) := []
def il43 : IL := (.call [] 1 60 [(.var 0), (.fn 61 .lnil (.bin .cons (.un .mkptr (.var 1)) (.bin .cons (.un .mkptr (.var 0)) .lnil)))] (.out 2 [(.var 2)]))
theorem d43 : decompF C ⟨[.ptr 81, .struct 52], [.slice 39], [true]⟩ Tryd.f43 h43 = some il43 := by kernel_rfl
theorem e43 (R : Fns) (a0 a1 : D) : den C.G R il43 [a0, a1] =
    ((R 60 [a0, (D.fn 61 ([] : List D) ((D.ptr a1) :: ((D.ptr a0) :: ([] : List D))))]).bind fun r0 =>
    some (2, [(at_ r0 0)]) : Option Out) := by kernel_rfl
-- (*errata/vm.machine).two
def h45 : List (Nat × List (Nat × Tm × Nat)) := []
def il45 : IL := (.chk (.un .isptr (.var 0)) (.chk (.bin .inb (.un .len (.un (.fld 1) (.un .deref (.var 0)))) (.un (.fld 2) (.var 1))) (.chk (.un .isptr (.var 0)) (.chk (.bin .inb (.un .len (.un (.fld 1) (.un .deref (.var 0)))) (.un (.fld 3) (.var 1))) (.call [] 1 60 [(.var 0), (.fn 66 .lnil (.bin .cons (.un .mkptr (.var 1)) (.bin .cons (.un .mkptr (.bin .idx (.un (.fld 1) (.un .deref (.var 0))) (.un (.fld 2) (.var 1)))) (.bin .cons (.un .mkptr (.bin .idx (.un (.fld 1) (.un .deref (.var 0))) (.un (.fld 3) (.var 1)))) .lnil))))] (.out 2 [(.var 2)]))))))
theorem d45 : decompF C ⟨[.ptr 81, .struct 52], [.slice 39], [true]⟩ Tryd.f45 h45 = some il45 := by kernel_rfl
theorem e45 (R : Fns) (a0 a1 : D) : den C.G R il45 [a0, a1] =
    (if (D.isP a0) then
    if (decide (0 ≤ (D.asI (at_ (D.asA a1) 2)) ∧ (D.asI (at_ (D.asA a1) 2)) < (((D.asL (at_ (D.asA (D.asP a0)) 1))).length : Int))) then
    if (D.isP a0) then
    if (decide (0 ≤ (D.asI (at_ (D.asA a1) 3)) ∧ (D.asI (at_ (D.asA a1) 3)) < (((D.asL (at_ (D.asA (D.asP a0)) 1))).length : Int))) then
    (R 60 [a0, (D.fn 66 ([] : List D) ((D.ptr a1) :: ((D.ptr (at_ (D.asL (at_ (D.asA (D.asP a0)) 1)) (Int.toNat (D.asI (at_ (D.asA a1) 2))))) :: ((D.ptr (at_ (D.asL (at_ (D.asA (D.asP a0)) 1)) (Int.toNat (D.asI (at_ (D.asA a1) 3))))) :: ([] : List D)))))]).bind fun r0 =>
    some (2, [(at_ r0 0)])
    else none
    else none
    else none
    else none : Option Out) := by kernel_rfl
-- errata/errataref03.Right
def h53 : List (Nat × List (Nat × Tm × Nat)) := []
def il53 : IL := (.ite (.bin .ieq (.un (.fld 0) (.var 0)) (.int 0)) (.out 2 [(.bin .seq (.un (.fld 2) (.var 0)) (.str []))]) (.ite (.bin .ieq (.un (.fld 0) (.var 0)) (.int 1)) (.out 2 [(.bin .and (.bin .ieq (.un (.fld 1) (.var 0)) (.int 0)) (.bin .ile (.un .slen (.un (.fld 2) (.var 0))) (.int 200)))]) (.out 2 [(.bin .and (.bin .and (.bin .ieq (.un (.fld 0) (.var 0)) (.int 2)) (.bin .or (.bin .ieq (.un (.fld 1) (.var 0)) (.int 0)) (.bin .ieq (.un (.fld 1) (.var 0)) (.int 1)))) (.bin .seq (.un (.fld 2) (.var 0)) (.str [])))])))
theorem d53 : decompF C ⟨[.struct 39], [.bool], [false]⟩ Tryd.f53 h53 = some il53 := by kernel_rfl
theorem e53 (R : Fns) (a0 : D) : den C.G R il53 [a0] =
    (if ((D.asI (at_ (D.asA a0) 0)) == (0 : Int)) then
      some (2, [(D.bool ((D.asS (at_ (D.asA a0) 2)) == []))])
    else
      if ((D.asI (at_ (D.asA a0) 0)) == (1 : Int)) then
        some (2, [(D.bool (((D.asI (at_ (D.asA a0) 1)) == (0 : Int)) && (decide ((((D.asS (at_ (D.asA a0) 2))).length : Int) ≤ (200 : Int)))))])
      else
        some (2, [(D.bool ((((D.asI (at_ (D.asA a0) 0)) == (2 : Int)) && (((D.asI (at_ (D.asA a0) 1)) == (0 : Int)) || ((D.asI (at_ (D.asA a0) 1)) == (1 : Int)))) && ((D.asS (at_ (D.asA a0) 2)) == [])))]) : Option Out) := by kernel_rfl
-- errata/code.isOp
def h54 : List (Nat × List (Nat × Tm × Nat)) := []
def il54 : IL := (.chk (.tri .ite (.bin .and (.bin .ile (.int 0) (.var 0)) (.bin .ilt (.var 0) (.int 23))) (.bin .inb (.int 23) (.var 0)) (.bool true)) (.out 2 [(.bin .and (.bin .and (.bin .ile (.int 0) (.var 0)) (.bin .ilt (.var 0) (.int 23))) (.un .not (.bin .seq (.bin .aidx (.un .deref (.glob 0)) (.var 0)) (.str []))))]))
theorem d54 : decompF C ⟨[.int .i64], [.bool], [false]⟩ Tryd.f54 h54 = some il54 := by kernel_rfl
theorem e54 (R : Fns) (a0 : D) : den C.G R il54 [a0] =
    (if (D.asB (if ((decide ((0 : Int) ≤ (D.asI a0))) && (decide ((D.asI a0) < (23 : Int)))) then (D.bool (decide (0 ≤ (D.asI a0) ∧ (D.asI a0) < (23 : Int)))) else (D.bool true))) then
    some (2, [(D.bool (((decide ((0 : Int) ≤ (D.asI a0))) && (decide ((D.asI a0) < (23 : Int)))) && (!((D.asS (at_ (D.asA (C.G 0)) (Int.toNat (D.asI a0)))) == []))))])
    else none : Option Out) := by kernel_rfl
-- errata/value.Int
def h62 : List (Nat × List (Nat × Tm × Nat)) := []
def il62 : IL := (.out 2 [(.un .mkagg (.bin .cons (.int 0) (.bin .cons (.var 0) (.bin .cons (.str []) .lnil))))])
theorem d62 : decompF C ⟨[.int .i64], [.struct 39], [false]⟩ Tryd.f62 h62 = some il62 := by kernel_rfl
theorem e62 (R : Fns) (a0 : D) : den C.G R il62 [a0] =
    (some (2, [(D.agg ((D.int 0) :: (a0 :: ((D.str []) :: ([] : List D)))))]) : Option Out) := by kernel_rfl
-- (*errata/vm.machine).two$1
def h66 : List (Nat × List (Nat × Tm × Nat)) := []
def il66 : IL := (.chk (.un .isptr (.var 1)) (.chk (.un .isptr (.var 2)) (.chk (.un .isptr (.var 3)) (.ite (.bin .ieq (.un (.fld 0) (.un .deref (.var 1))) (.int 13)) (.chk (.bin .inb (.un .len (.un .deref (.var 2))) (.var 0)) (.chk (.bin .inb (.un .len (.un .deref (.var 3))) (.var 0)) (.call [] 1 63 [(.bin .deq (.bin .idx (.un .deref (.var 2)) (.var 0)) (.bin .idx (.un .deref (.var 3)) (.var 0)))] (.out 2 [(.var 4)])))) (.ite (.bin .ieq (.un (.fld 0) (.un .deref (.var 1))) (.int 14)) (.chk (.bin .inb (.un .len (.un .deref (.var 2))) (.var 0)) (.chk (.bin .inb (.un .len (.un .deref (.var 3))) (.var 0)) (.call [] 1 63 [(.un .not (.bin .deq (.bin .idx (.un .deref (.var 2)) (.var 0)) (.bin .idx (.un .deref (.var 3)) (.var 0))))] (.out 2 [(.var 4)])))) (.ite (.bin .ieq (.un (.fld 0) (.un .deref (.var 1))) (.int 15)) (.chk (.bin .inb (.un .len (.un .deref (.var 2))) (.var 0)) (.chk (.bin .inb (.un .len (.un .deref (.var 3))) (.var 0)) (.call [] 1 67 [(.bin .idx (.un .deref (.var 2)) (.var 0)), (.bin .idx (.un .deref (.var 3)) (.var 0))] (.call [] 1 63 [(.bin .ilt (.var 4) (.int 0))] (.out 2 [(.var 5)]))))) (.ite (.bin .ieq (.un (.fld 0) (.un .deref (.var 1))) (.int 16)) (.chk (.bin .inb (.un .len (.un .deref (.var 2))) (.var 0)) (.chk (.bin .inb (.un .len (.un .deref (.var 3))) (.var 0)) (.call [] 1 67 [(.bin .idx (.un .deref (.var 2)) (.var 0)), (.bin .idx (.un .deref (.var 3)) (.var 0))] (.call [] 1 63 [(.bin .ile (.var 4) (.int 0))] (.out 2 [(.var 5)]))))) (.ite (.bin .ieq (.un (.fld 0) (.un .deref (.var 1))) (.int 17)) (.chk (.bin .inb (.un .len (.un .deref (.var 2))) (.var 0)) (.chk (.tri .ite (.bin .ieq (.un (.fld 1) (.bin .idx (.un .deref (.var 2)) (.var 0))) (.int 1)) (.bin .inb (.un .len (.un .deref (.var 3))) (.var 0)) (.bool true)) (.call [] 1 63 [(.bin .and (.bin .ieq (.un (.fld 1) (.bin .idx (.un .deref (.var 2)) (.var 0))) (.int 1)) (.bin .ieq (.un (.fld 1) (.bin .idx (.un .deref (.var 3)) (.var 0))) (.int 1)))] (.out 2 [(.var 4)])))) (.ite (.bin .ieq (.un (.fld 0) (.un .deref (.var 1))) (.int 18)) (.chk (.bin .inb (.un .len (.un .deref (.var 2))) (.var 0)) (.chk (.tri .ite (.bin .ieq (.un (.fld 1) (.bin .idx (.un .deref (.var 2)) (.var 0))) (.int 1)) (.bool true) (.bin .inb (.un .len (.un .deref (.var 3))) (.var 0))) (.call [] 1 63 [(.bin .or (.bin .ieq (.un (.fld 1) (.bin .idx (.un .deref (.var 2)) (.var 0))) (.int 1)) (.bin .ieq (.un (.fld 1) (.bin .idx (.un .deref (.var 3)) (.var 0))) (.int 1)))] (.out 2 [(.var 4)])))) (.ite (.bin .ieq (.un (.fld 0) (.un .deref (.var 1))) (.int 19)) (.chk (.bin .inb (.un .len (.un .deref (.var 2))) (.var 0)) (.chk (.bin .inb (.un .len (.un .deref (.var 3))) (.var 0)) (.chk (.bin (.fits 34359738368) (.un .slen (.un (.fld 2) (.bin .idx (.un .deref (.var 2)) (.var 0)))) (.un .slen (.un (.fld 2) (.bin .idx (.un .deref (.var 3)) (.var 0))))) (.chk (.tri .cut (.int 0) (.bin .imin (.un .slen (.bin .cat (.un (.fld 2) (.bin .idx (.un .deref (.var 2)) (.var 0))) (.un (.fld 2) (.bin .idx (.un .deref (.var 3)) (.var 0))))) (.int 200)) (.un .slen (.bin .cat (.un (.fld 2) (.bin .idx (.un .deref (.var 2)) (.var 0))) (.un (.fld 2) (.bin .idx (.un .deref (.var 3)) (.var 0)))))) (.call [] 1 64 [(.bin .sdrop (.bin .stake (.bin .cat (.un (.fld 2) (.bin .idx (.un .deref (.var 2)) (.var 0))) (.un (.fld 2) (.bin .idx (.un .deref (.var 3)) (.var 0)))) (.bin .imin (.un .slen (.bin .cat (.un (.fld 2) (.bin .idx (.un .deref (.var 2)) (.var 0))) (.un (.fld 2) (.bin .idx (.un .deref (.var 3)) (.var 0))))) (.int 200))) (.int 0))] (.out 2 [(.var 4)])))))) (.chk (.bin .inb (.un .len (.un .deref (.var 2))) (.var 0)) (.chk (.bin .inb (.un .len (.un .deref (.var 3))) (.var 0)) (.call [] 1 68 [(.un (.fld 0) (.un .deref (.var 1))), (.un (.fld 1) (.bin .idx (.un .deref (.var 2)) (.var 0))), (.un (.fld 1) (.bin .idx (.un .deref (.var 3)) (.var 0)))] (.out 2 [(.var 4)]))))))))))))))
theorem d66 : decompF C ⟨[.int .i64, .ptr 52, .ptr 33, .ptr 33], [.struct 39], [false]⟩ Tryd.f66 h66 = some il66 := by kernel_rfl
theorem e66 (R : Fns) (a0 a1 a2 a3 : D) : den C.G R il66 [a0, a1, a2, a3] =
    (if (D.isP a1) then
    if (D.isP a2) then
    if (D.isP a3) then
    if ((D.asI (at_ (D.asA (D.asP a1)) 0)) == (13 : Int)) then
      if (decide (0 ≤ (D.asI a0) ∧ (D.asI a0) < (((D.asL (D.asP a2))).length : Int))) then
      if (decide (0 ≤ (D.asI a0) ∧ (D.asI a0) < (((D.asL (D.asP a3))).length : Int))) then
      (R 63 [(D.bool (D.beq (at_ (D.asL (D.asP a2)) (Int.toNat (D.asI a0))) (at_ (D.asL (D.asP a3)) (Int.toNat (D.asI a0)))))]).bind fun r0 =>
      some (2, [(at_ r0 0)])
      else none
      else none
    else
      if ((D.asI (at_ (D.asA (D.asP a1)) 0)) == (14 : Int)) then
        if (decide (0 ≤ (D.asI a0) ∧ (D.asI a0) < (((D.asL (D.asP a2))).length : Int))) then
        if (decide (0 ≤ (D.asI a0) ∧ (D.asI a0) < (((D.asL (D.asP a3))).length : Int))) then
        (R 63 [(D.bool (!(D.beq (at_ (D.asL (D.asP a2)) (Int.toNat (D.asI a0))) (at_ (D.asL (D.asP a3)) (Int.toNat (D.asI a0))))))]).bind fun r0 =>
        some (2, [(at_ r0 0)])
        else none
        else none
      else
        if ((D.asI (at_ (D.asA (D.asP a1)) 0)) == (15 : Int)) then
          if (decide (0 ≤ (D.asI a0) ∧ (D.asI a0) < (((D.asL (D.asP a2))).length : Int))) then
          if (decide (0 ≤ (D.asI a0) ∧ (D.asI a0) < (((D.asL (D.asP a3))).length : Int))) then
          (R 67 [(at_ (D.asL (D.asP a2)) (Int.toNat (D.asI a0))), (at_ (D.asL (D.asP a3)) (Int.toNat (D.asI a0)))]).bind fun r0 =>
          (R 63 [(D.bool (decide ((D.asI (at_ r0 0)) < (0 : Int))))]).bind fun r1 =>
          some (2, [(at_ r1 0)])
          else none
          else none
        else
          if ((D.asI (at_ (D.asA (D.asP a1)) 0)) == (16 : Int)) then
            if (decide (0 ≤ (D.asI a0) ∧ (D.asI a0) < (((D.asL (D.asP a2))).length : Int))) then
            if (decide (0 ≤ (D.asI a0) ∧ (D.asI a0) < (((D.asL (D.asP a3))).length : Int))) then
            (R 67 [(at_ (D.asL (D.asP a2)) (Int.toNat (D.asI a0))), (at_ (D.asL (D.asP a3)) (Int.toNat (D.asI a0)))]).bind fun r0 =>
            (R 63 [(D.bool (decide ((D.asI (at_ r0 0)) ≤ (0 : Int))))]).bind fun r1 =>
            some (2, [(at_ r1 0)])
            else none
            else none
          else
            if ((D.asI (at_ (D.asA (D.asP a1)) 0)) == (17 : Int)) then
              if (decide (0 ≤ (D.asI a0) ∧ (D.asI a0) < (((D.asL (D.asP a2))).length : Int))) then
              if (D.asB (if ((D.asI (at_ (D.asA (at_ (D.asL (D.asP a2)) (Int.toNat (D.asI a0)))) 1)) == (1 : Int)) then (D.bool (decide (0 ≤ (D.asI a0) ∧ (D.asI a0) < (((D.asL (D.asP a3))).length : Int)))) else (D.bool true))) then
              (R 63 [(D.bool (((D.asI (at_ (D.asA (at_ (D.asL (D.asP a2)) (Int.toNat (D.asI a0)))) 1)) == (1 : Int)) && ((D.asI (at_ (D.asA (at_ (D.asL (D.asP a3)) (Int.toNat (D.asI a0)))) 1)) == (1 : Int))))]).bind fun r0 =>
              some (2, [(at_ r0 0)])
              else none
              else none
            else
              if ((D.asI (at_ (D.asA (D.asP a1)) 0)) == (18 : Int)) then
                if (decide (0 ≤ (D.asI a0) ∧ (D.asI a0) < (((D.asL (D.asP a2))).length : Int))) then
                if (D.asB (if ((D.asI (at_ (D.asA (at_ (D.asL (D.asP a2)) (Int.toNat (D.asI a0)))) 1)) == (1 : Int)) then (D.bool true) else (D.bool (decide (0 ≤ (D.asI a0) ∧ (D.asI a0) < (((D.asL (D.asP a3))).length : Int)))))) then
                (R 63 [(D.bool (((D.asI (at_ (D.asA (at_ (D.asL (D.asP a2)) (Int.toNat (D.asI a0)))) 1)) == (1 : Int)) || ((D.asI (at_ (D.asA (at_ (D.asL (D.asP a3)) (Int.toNat (D.asI a0)))) 1)) == (1 : Int))))]).bind fun r0 =>
                some (2, [(at_ r0 0)])
                else none
                else none
              else
                if ((D.asI (at_ (D.asA (D.asP a1)) 0)) == (19 : Int)) then
                  if (decide (0 ≤ (D.asI a0) ∧ (D.asI a0) < (((D.asL (D.asP a2))).length : Int))) then
                  if (decide (0 ≤ (D.asI a0) ∧ (D.asI a0) < (((D.asL (D.asP a3))).length : Int))) then
                  if (D.asB (U2.ev (.fits 34359738368) (D.int (((D.asS (at_ (D.asA (at_ (D.asL (D.asP a2)) (Int.toNat (D.asI a0)))) 2))).length : Int)) (D.int (((D.asS (at_ (D.asA (at_ (D.asL (D.asP a3)) (Int.toNat (D.asI a0)))) 2))).length : Int)))) then
                  if (decide (0 ≤ (0 : Int) ∧ (0 : Int) ≤ (if (200 : Int) < ((((D.asS (at_ (D.asA (at_ (D.asL (D.asP a2)) (Int.toNat (D.asI a0)))) 2)) ++ (D.asS (at_ (D.asA (at_ (D.asL (D.asP a3)) (Int.toNat (D.asI a0)))) 2)))).length : Int) then (200 : Int) else ((((D.asS (at_ (D.asA (at_ (D.asL (D.asP a2)) (Int.toNat (D.asI a0)))) 2)) ++ (D.asS (at_ (D.asA (at_ (D.asL (D.asP a3)) (Int.toNat (D.asI a0)))) 2)))).length : Int)) ∧ (if (200 : Int) < ((((D.asS (at_ (D.asA (at_ (D.asL (D.asP a2)) (Int.toNat (D.asI a0)))) 2)) ++ (D.asS (at_ (D.asA (at_ (D.asL (D.asP a3)) (Int.toNat (D.asI a0)))) 2)))).length : Int) then (200 : Int) else ((((D.asS (at_ (D.asA (at_ (D.asL (D.asP a2)) (Int.toNat (D.asI a0)))) 2)) ++ (D.asS (at_ (D.asA (at_ (D.asL (D.asP a3)) (Int.toNat (D.asI a0)))) 2)))).length : Int)) ≤ ((((D.asS (at_ (D.asA (at_ (D.asL (D.asP a2)) (Int.toNat (D.asI a0)))) 2)) ++ (D.asS (at_ (D.asA (at_ (D.asL (D.asP a3)) (Int.toNat (D.asI a0)))) 2)))).length : Int))) then
                  (R 64 [(D.str ((((((D.asS (at_ (D.asA (at_ (D.asL (D.asP a2)) (Int.toNat (D.asI a0)))) 2)) ++ (D.asS (at_ (D.asA (at_ (D.asL (D.asP a3)) (Int.toNat (D.asI a0)))) 2)))).take (Int.toNat (if (200 : Int) < ((((D.asS (at_ (D.asA (at_ (D.asL (D.asP a2)) (Int.toNat (D.asI a0)))) 2)) ++ (D.asS (at_ (D.asA (at_ (D.asL (D.asP a3)) (Int.toNat (D.asI a0)))) 2)))).length : Int) then (200 : Int) else ((((D.asS (at_ (D.asA (at_ (D.asL (D.asP a2)) (Int.toNat (D.asI a0)))) 2)) ++ (D.asS (at_ (D.asA (at_ (D.asL (D.asP a3)) (Int.toNat (D.asI a0)))) 2)))).length : Int))))).drop (Int.toNat 0)))]).bind fun r0 =>
                  some (2, [(at_ r0 0)])
                  else none
                  else none
                  else none
                  else none
                else
                  if (decide (0 ≤ (D.asI a0) ∧ (D.asI a0) < (((D.asL (D.asP a2))).length : Int))) then
                  if (decide (0 ≤ (D.asI a0) ∧ (D.asI a0) < (((D.asL (D.asP a3))).length : Int))) then
                  (R 68 [(at_ (D.asA (D.asP a1)) 0), (at_ (D.asA (at_ (D.asL (D.asP a2)) (Int.toNat (D.asI a0)))) 1), (at_ (D.asA (at_ (D.asL (D.asP a3)) (Int.toNat (D.asI a0)))) 1)]).bind fun r0 =>
                  some (2, [(at_ r0 0)])
                  else none
                  else none
    else none
    else none
    else none : Option Out) := by kernel_rfl
-- errata/errataref16.of
def h87 : List (Nat × List (Nat × Tm × Nat)) := []
def il87 : IL := (.call [] 1 96 [(.var 3)] (.ite (.bin .ilt (.int 12) (.var 4)) (.out 2 [(.int 0), (.bool false)]) (.call [] 2 97 [(.var 0), (.var 1), (.var 2), (.var 3)] (.ite (.un .not (.var 6)) (.out 2 [(.int 0), (.bool false)]) (.out 2 [(.var 5), (.bool true)])))))
theorem d87 : decompF C ⟨[.slice 107, .slice 3, .slice 3, .struct 75], [.int .i64, .bool], [false, false]⟩ Tryd.f87 h87 = some il87 := by kernel_rfl
theorem e87 (R : Fns) (a0 a1 a2 a3 : D) : den C.G R il87 [a0, a1, a2, a3] =
    ((R 96 [a3]).bind fun r0 =>
    if (decide ((12 : Int) < (D.asI (at_ r0 0)))) then
      some (2, [(D.int 0), (D.bool false)])
    else
      (R 97 [a0, a1, a2, a3]).bind fun r1 =>
      if (!(D.asB (at_ r1 1))) then
        some (2, [(D.int 0), (D.bool false)])
      else
        some (2, [(at_ r1 0), (D.bool true)]) : Option Out) := by kernel_rfl
-- errata/errataref16.Run
def h88 : List (Nat × List (Nat × Tm × Nat)) := [(23, [(0, ⟨[(16, (.dat (.int .i64) (.var 5))), (15, (.sli 600 0 39)), (0, (.dat (.slice 107) (.var 0))), (2, (.dat (.int .i64) (.var 2))), (4, (.dat (.slice 39) (.var 4))), (14, (.dat (.int .i64) (.var 6))), (3, (.dat (.slice 39) (.var 3))), (6, (.bptr 48 [] 75)), (10, (.bptr 80 [] 117))], [(600, (.arr 39 (.var 7) 0)), (48, (.box 75 (.dat (.struct 75) (.var 1)))), (80, (.box 117 (.agg 117 [(.agg 39 [(.dat (.int .i64) (.int 0)), (.dat (.int .i64) (.int 0)), (.dat (.str) (.str []))]), (.dat (.int .i64) (.int 0))])))]⟩, 3), (3, ⟨[(15, (.sli 600 0 39)), (0, (.dat (.slice 107) (.var 0))), (2, (.dat (.int .i64) (.var 2))), (4, (.dat (.slice 39) (.var 4))), (14, (.dat (.int .i64) (.var 5))), (3, (.dat (.slice 39) (.var 3))), (6, (.bptr 48 [] 75)), (10, (.bptr 80 [] 117))], [(600, (.arr 39 (.var 6) 0)), (48, (.box 75 (.dat (.struct 75) (.var 1)))), (80, (.box 117 (.agg 117 [(.agg 39 [(.dat (.int .i64) (.int 0)), (.dat (.int .i64) (.int 0)), (.dat (.str) (.str []))]), (.dat (.int .i64) (.int 0))])))]⟩, 2)]), (12, [(1, ⟨[(11, (.bptr 88 [] 117)), (12, (.dat (.int .i64) (.var 6))), (4, (.dat (.slice 39) (.var 4))), (3, (.dat (.slice 39) (.var 3))), (2, (.dat (.int .i64) (.var 2))), (0, (.dat (.slice 107) (.var 0))), (6, (.bptr 48 [] 75)), (10, (.bptr 80 [] 117))], [(88, (.box 117 (.dat (.struct 117) (.var 5)))), (48, (.box 75 (.dat (.struct 75) (.var 1)))), (80, (.box 117 (.agg 117 [(.agg 39 [(.dat (.int .i64) (.int 0)), (.dat (.int .i64) (.int 0)), (.dat (.str) (.str []))]), (.dat (.int .i64) (.int 0))])))]⟩, 1)])]
def il88 : IL := (.ite (.bin .ieq (.un (.fld 0) (.var 1)) (.int 21)) (.chk (.bin .inb (.un .len (.un (.fld 3) (.var 1))) (.int 0)) (.call [] 1 88 [(.var 0), (.bin .idx (.un (.fld 3) (.var 1)) (.int 0)), (.var 2), (.var 3), (.var 4)] (.bindc (.ite (.bin .ieq (.un (.fld 1) (.un (.fld 0) (.var 5))) (.int 1)) (.out 786436 [(.int 1)]) (.out 786436 [(.int 2)])) 786436 1 (.chk (.bin .inb (.un .len (.un (.fld 3) (.var 1))) (.var 6)) (.call [] 1 88 [(.var 0), (.bin .idx (.un (.fld 3) (.var 1)) (.var 6)), (.var 2), (.var 3), (.var 4)] (.out 2 [(.un .mkagg (.bin .cons (.un (.fld 0) (.var 7)) (.bin .cons (.bin (.add .i64) (.bin (.add .i64) (.int 1) (.un (.fld 1) (.var 5))) (.un (.fld 1) (.var 7))) .lnil)))])))))) (.bindc (.loop [(.int 0), (.int 1), .lnil] (.ite (.bin .ilt (.var 5) (.un .len (.un (.fld 3) (.var 1)))) (.chk (.bin .inb (.un .len (.un (.fld 3) (.var 1))) (.var 5)) (.call [] 1 88 [(.var 0), (.bin .idx (.un (.fld 3) (.var 1)) (.var 5)), (.var 2), (.var 3), (.var 4)] (.chk (.bin (.fits 34359738368) (.un .len (.var 7)) (.un .len (.bin .cons (.un (.fld 0) (.var 8)) .lnil))) (.out 0 [(.bin (.add .i64) (.var 5) (.int 1)), (.bin (.add .i64) (.var 6) (.un (.fld 1) (.var 8))), (.bin .snoc (.var 7) (.un (.fld 0) (.var 8)))])))) (.out 1507334 [(.var 6), (.var 7)]))) 1507334 2 (.ite (.bin .ieq (.un (.fld 0) (.var 1)) (.int 3)) (.chk (.bin .inb (.un .len (.var 3)) (.un (.fld 1) (.var 1))) (.out 2 [(.un .mkagg (.bin .cons (.bin .idx (.var 3) (.un (.fld 1) (.var 1))) (.bin .cons (.var 5) .lnil)))])) (.ite (.bin .ieq (.un (.fld 0) (.var 1)) (.int 4)) (.chk (.bin .inb (.un .len (.var 4)) (.un (.fld 1) (.var 1))) (.out 2 [(.un .mkagg (.bin .cons (.bin .idx (.var 4) (.un (.fld 1) (.var 1))) (.bin .cons (.var 5) .lnil)))])) (.ite (.bin .ieq (.un (.fld 0) (.var 1)) (.int 5)) (.out 2 [(.un .mkagg (.bin .cons (.un .mkagg (.bin .cons (.int 0) (.bin .cons (.var 2) (.bin .cons (.str []) .lnil)))) (.bin .cons (.var 5) .lnil)))]) (.ite (.bin .ieq (.un (.fld 0) (.var 1)) (.int 22)) (.chk (.bin .inb (.un .len (.var 0)) (.un (.fld 1) (.var 1))) (.call [] 1 88 [(.var 0), (.un (.fld 3) (.bin .idx (.var 0) (.un (.fld 1) (.var 1)))), (.var 2), .lnil, (.var 6)] (.out 2 [(.un .mkagg (.bin .cons (.un (.fld 0) (.var 7)) (.bin .cons (.bin (.add .i64) (.var 5) (.un (.fld 1) (.var 7))) .lnil)))]))) (.call [] 1 98 [(.var 1), (.var 6)] (.out 2 [(.un .mkagg (.bin .cons (.var 7) (.bin .cons (.var 5) .lnil)))]))))))))
theorem d88 : decompF C ⟨[.slice 107, .struct 75, .int .i64, .slice 39, .slice 39], [.struct 117], [false]⟩ Tryd.f88 h88 = some il88 := by kernel_rfl
theorem e88 (R : Fns) (a0 a1 a2 a3 a4 : D) : den C.G R il88 [a0, a1, a2, a3, a4] =
    (if ((D.asI (at_ (D.asA a1) 0)) == (21 : Int)) then
      if (decide (0 ≤ (0 : Int) ∧ (0 : Int) < (((D.asL (at_ (D.asA a1) 3))).length : Int))) then
      (R 88 [a0, (at_ (D.asL (at_ (D.asA a1) 3)) (Int.toNat (0 : Int))), a2, a3, a4]).bind fun r0 =>
      (if ((D.asI (at_ (D.asA (at_ (D.asA (at_ r0 0)) 0)) 1)) == (1 : Int)) then
          some (786436, [(D.int 1)])
        else
          some (786436, [(D.int 2)])).bind fun o1 =>
      if o1.1 = 786436 then
        if (decide (0 ≤ (D.asI (at_ o1.2 0)) ∧ (D.asI (at_ o1.2 0)) < (((D.asL (at_ (D.asA a1) 3))).length : Int))) then
        (R 88 [a0, (at_ (D.asL (at_ (D.asA a1) 3)) (Int.toNat (D.asI (at_ o1.2 0)))), a2, a3, a4]).bind fun r2 =>
        some (2, [(D.agg ((at_ (D.asA (at_ r2 0)) 0) :: ((D.int (IntKind.wrap .i64 ((IntKind.wrap .i64 ((1 : Int) + (D.asI (at_ (D.asA (at_ r0 0)) 1)))) + (D.asI (at_ (D.asA (at_ r2 0)) 1))))) :: ([] : List D))))])
        else none
      else some o1
      else none
    else
      (loopL (fun s1 =>
          if (decide ((D.asI (at_ s1 0)) < (((D.asL (at_ (D.asA a1) 3))).length : Int))) then
            if (decide (0 ≤ (D.asI (at_ s1 0)) ∧ (D.asI (at_ s1 0)) < (((D.asL (at_ (D.asA a1) 3))).length : Int))) then
            (R 88 [a0, (at_ (D.asL (at_ (D.asA a1) 3)) (Int.toNat (D.asI (at_ s1 0)))), a2, a3, a4]).bind fun r2 =>
            if (D.asB (U2.ev (.fits 34359738368) (D.int (((D.asL (at_ s1 2))).length : Int)) (D.int ((((at_ (D.asA (at_ r2 0)) 0) :: ([] : List D))).length : Int)))) then
            some (0, [(D.int (IntKind.wrap .i64 ((D.asI (at_ s1 0)) + (1 : Int)))), (D.int (IntKind.wrap .i64 ((D.asI (at_ s1 1)) + (D.asI (at_ (D.asA (at_ r2 0)) 1))))), (D.list ((D.asL (at_ s1 2)) ++ [(at_ (D.asA (at_ r2 0)) 0)]))])
            else none
            else none
          else
            some (1507334, [(at_ s1 1), (at_ s1 2)])) [(D.int 0), (D.int 1), (D.list [])]).bind fun o0 =>
      if o0.1 = 1507334 then
        if ((D.asI (at_ (D.asA a1) 0)) == (3 : Int)) then
          if (decide (0 ≤ (D.asI (at_ (D.asA a1) 1)) ∧ (D.asI (at_ (D.asA a1) 1)) < (((D.asL a3)).length : Int))) then
          some (2, [(D.agg ((at_ (D.asL a3) (Int.toNat (D.asI (at_ (D.asA a1) 1)))) :: ((at_ o0.2 0) :: ([] : List D))))])
          else none
        else
          if ((D.asI (at_ (D.asA a1) 0)) == (4 : Int)) then
            if (decide (0 ≤ (D.asI (at_ (D.asA a1) 1)) ∧ (D.asI (at_ (D.asA a1) 1)) < (((D.asL a4)).length : Int))) then
            some (2, [(D.agg ((at_ (D.asL a4) (Int.toNat (D.asI (at_ (D.asA a1) 1)))) :: ((at_ o0.2 0) :: ([] : List D))))])
            else none
          else
            if ((D.asI (at_ (D.asA a1) 0)) == (5 : Int)) then
              some (2, [(D.agg ((D.agg ((D.int 0) :: (a2 :: ((D.str []) :: ([] : List D))))) :: ((at_ o0.2 0) :: ([] : List D))))])
            else
              if ((D.asI (at_ (D.asA a1) 0)) == (22 : Int)) then
                if (decide (0 ≤ (D.asI (at_ (D.asA a1) 1)) ∧ (D.asI (at_ (D.asA a1) 1)) < (((D.asL a0)).length : Int))) then
                (R 88 [a0, (at_ (D.asA (at_ (D.asL a0) (Int.toNat (D.asI (at_ (D.asA a1) 1))))) 3), a2, (D.list []), (at_ o0.2 1)]).bind fun r1 =>
                some (2, [(D.agg ((at_ (D.asA (at_ r1 0)) 0) :: ((D.int (IntKind.wrap .i64 ((D.asI (at_ o0.2 0)) + (D.asI (at_ (D.asA (at_ r1 0)) 1))))) :: ([] : List D))))])
                else none
              else
                (R 98 [a1, (at_ o0.2 1)]).bind fun r1 =>
                some (2, [(D.agg ((at_ r1 0) :: ((at_ o0.2 0) :: ([] : List D))))])
      else some o0 : Option Out) := by kernel_rfl
-- errata/errataref16.Levels
def h96 : List (Nat × List (Nat × Tm × Nat)) := [(7, [(0, ⟨[(1, (.bptr 8 [] 75)), (4, (.dat (.int .i64) (.var 1))), (3, (.dat (.int .i64) (.var 2))), (2, (.dat (.int .i64) (.int 0)))], [(8, (.box 75 (.dat (.struct 75) (.var 0))))]⟩, 2), (3, ⟨[(3, (.dat (.int .i64) (.var 1))), (2, (.dat (.int .i64) (.int 0)))], []⟩, 1)])]
def il96 : IL := (.bindc (.loop [(.int 0), (.int 0)] (.ite (.bin .ilt (.var 1) (.un .len (.un (.fld 3) (.var 0)))) (.chk (.bin .inb (.un .len (.un (.fld 3) (.var 0))) (.var 1)) (.call [] 1 96 [(.bin .idx (.un (.fld 3) (.var 0)) (.var 1))] (.out 0 [(.bin (.add .i64) (.var 1) (.int 1)), (.bin .imax (.var 2) (.var 3))]))) (.out 458758 [(.var 2)]))) 458758 1 (.out 2 [(.bin (.add .i64) (.var 1) (.int 1))]))
theorem d96 : decompF C ⟨[.struct 75], [.int .i64], [false]⟩ Tryd.f96 h96 = some il96 := by kernel_rfl
theorem e96 (R : Fns) (a0 : D) : den C.G R il96 [a0] =
    ((loopL (fun s1 =>
        if (decide ((D.asI (at_ s1 0)) < (((D.asL (at_ (D.asA a0) 3))).length : Int))) then
          if (decide (0 ≤ (D.asI (at_ s1 0)) ∧ (D.asI (at_ s1 0)) < (((D.asL (at_ (D.asA a0) 3))).length : Int))) then
          (R 96 [(at_ (D.asL (at_ (D.asA a0) 3)) (Int.toNat (D.asI (at_ s1 0))))]).bind fun r2 =>
          some (0, [(D.int (IntKind.wrap .i64 ((D.asI (at_ s1 0)) + (1 : Int)))), (D.int (if (D.asI (at_ r2 0)) > (D.asI (at_ s1 1)) then (D.asI (at_ r2 0)) else (D.asI (at_ s1 1))))])
          else none
        else
          some (458758, [(at_ s1 1)])) [(D.int 0), (D.int 0)]).bind fun o0 =>
    if o0.1 = 458758 then
      some (2, [(D.int (IntKind.wrap .i64 ((D.asI (at_ o0.2 0)) + (1 : Int))))])
    else some o0 : Option Out) := by kernel_rfl
-- errata/errataref16.inner
def h97 : List (Nat × List (Nat × Tm × Nat)) := [(84, [(1, ⟨[(97, (.dat (.int .i64) (.un (.fld 0) (.var 3)))), (124, (.dat (.bool) (.var 6))), (10, (.sli 304 0 3)), (9, (.dat (.bool) (.bool false))), (8, (.dat (.int .i64) (.int 0)))], [(304, (.arr 3 (.var 4) 0))]⟩, 1)]), (94, [(1, ⟨[(97, (.dat (.int .i64) (.un (.fld 0) (.var 3)))), (140, (.dat (.bool) (.var 7))), (10, (.sli 304 0 3)), (9, (.dat (.bool) (.bool false))), (8, (.dat (.int .i64) (.int 0)))], [(304, (.arr 3 (.var 4) 0))]⟩, 1)]), (100, [(1, ⟨[(97, (.dat (.int .i64) (.un (.fld 0) (.var 3)))), (152, (.dat (.bool) (.var 8))), (10, (.sli 304 0 3)), (9, (.dat (.bool) (.bool false))), (8, (.dat (.int .i64) (.int 0)))], [(304, (.arr 3 (.var 4) 0))]⟩, 1)]), (7, [(0, ⟨[(11, (.dat (.int .i64) (.var 4))), (2, (.dat (.slice 3) (.var 2))), (1, (.dat (.slice 3) (.var 1))), (10, (.sli 304 0 3)), (0, (.dat (.slice 107) (.var 0))), (7, (.bptr 56 [] 75)), (9, (.dat (.bool) (.bool false))), (8, (.dat (.int .i64) (.int 0)))], [(304, (.arr 3 (.var 5) 0)), (56, (.box 75 (.dat (.struct 75) (.var 3))))]⟩, 2), (3, ⟨[(2, (.dat (.slice 3) (.var 2))), (1, (.dat (.slice 3) (.var 1))), (10, (.sli 304 0 3)), (0, (.dat (.slice 107) (.var 0))), (7, (.bptr 56 [] 75)), (9, (.dat (.bool) (.bool false))), (8, (.dat (.int .i64) (.int 0)))], [(304, (.arr 3 (.var 4) 0)), (56, (.box 75 (.dat (.struct 75) (.var 3))))]⟩, 1)])]
def il97 : IL := (.bindc (.loop [(.int 0), .lnil] (.ite (.bin .ilt (.var 4) (.un .len (.un (.fld 3) (.var 3)))) (.chk (.bin .inb (.un .len (.un (.fld 3) (.var 3))) (.var 4)) (.call [] 2 97 [(.var 0), (.var 1), (.var 2), (.bin .idx (.un (.fld 3) (.var 3)) (.var 4))] (.ite (.un .not (.var 7)) (.out 2 [(.int 0), (.bool false)]) (.chk (.bin (.fits 34359738368) (.un .len (.var 5)) (.un .len (.bin .cons (.var 6) .lnil))) (.out 0 [(.bin (.add .i64) (.var 4) (.int 1)), (.bin .snoc (.var 5) (.var 6))]))))) (.out 458758 [(.var 5)]))) 458758 1 (.ite (.bin .and (.un .not (.bin .seq (.un (.fld 2) (.var 3)) (.str []))) (.un .not (.bin .ieq (.un (.fld 0) (.var 3)) (.int 1)))) (.out 2 [(.int 0), (.bool false)]) (.ite (.bin .ieq (.un (.fld 0) (.var 3)) (.int 22)) (.call [] 2 103 [(.var 0), (.un (.fld 1) (.var 3)), (.var 4)] (.out 2 [(.var 5), (.var 6)])) (.call [] 1 104 [(.un (.fld 0) (.var 3))] (.ite (.un .not (.bin .ieq (.var 5) (.un .len (.var 4)))) (.out 2 [(.int 0), (.bool false)]) (.ite (.bin .ieq (.un (.fld 0) (.var 3)) (.int 0)) (.out 2 [(.int 0), (.bool true)]) (.ite (.bin .ieq (.un (.fld 0) (.var 3)) (.int 2)) (.out 2 [(.int 2), (.bin .or (.bin .ieq (.un (.fld 1) (.var 3)) (.int 0)) (.bin .ieq (.un (.fld 1) (.var 3)) (.int 1)))]) (.ite (.bin .ieq (.un (.fld 0) (.var 3)) (.int 3)) (.call [] 2 105 [(.var 1), (.un (.fld 1) (.var 3))] (.out 2 [(.var 6), (.var 7)])) (.ite (.bin .ieq (.un (.fld 0) (.var 3)) (.int 4)) (.call [] 2 105 [(.var 2), (.un (.fld 1) (.var 3))] (.out 2 [(.var 6), (.var 7)])) (.ite (.un .not (.bin .ieq (.un (.fld 1) (.var 3)) (.int 0))) (.out 2 [(.int 0), (.bool false)]) (.ite (.bin .ieq (.un (.fld 0) (.var 3)) (.int 1)) (.out 2 [(.int 1), (.bin .ile (.un .slen (.un (.fld 2) (.var 3))) (.int 200))]) (.ite (.bin .ieq (.un (.fld 0) (.var 3)) (.int 5)) (.out 2 [(.int 0), (.bool true)]) (.ite (.bin .ieq (.un (.fld 0) (.var 3)) (.int 6)) (.chk (.bin .inb (.un .len (.var 4)) (.int 0)) (.out 2 [(.int 2), (.bin .ieq (.bin .idx (.var 4) (.int 0)) (.int 2))])) (.ite (.bin .ieq (.un (.fld 0) (.var 3)) (.int 7)) (.chk (.bin .inb (.un .len (.var 4)) (.int 0)) (.out 2 [(.int 0), (.bin .ieq (.bin .idx (.var 4) (.int 0)) (.int 0))])) (.ite (.bin .ieq (.un (.fld 0) (.var 3)) (.int 20)) (.chk (.bin .inb (.un .len (.var 4)) (.int 0)) (.out 2 [(.int 0), (.bin .ieq (.bin .idx (.var 4) (.int 0)) (.int 1))])) (.bindc (.ite (.bin .ieq (.un (.fld 0) (.var 3)) (.int 8)) (.out 5505028 [(.bin .ieq (.un (.fld 0) (.var 3)) (.int 8))]) (.ite (.bin .ieq (.un (.fld 0) (.var 3)) (.int 9)) (.out 5505028 [(.bin .ieq (.un (.fld 0) (.var 3)) (.int 9))]) (.ite (.bin .ieq (.un (.fld 0) (.var 3)) (.int 10)) (.out 5505028 [(.bin .ieq (.un (.fld 0) (.var 3)) (.int 10))]) (.ite (.bin .ieq (.un (.fld 0) (.var 3)) (.int 11)) (.out 5505028 [(.bin .ieq (.un (.fld 0) (.var 3)) (.int 11))]) (.out 5505028 [(.bin .ieq (.un (.fld 0) (.var 3)) (.int 12))]))))) 5505028 1 (.ite (.var 6) (.chk (.bin .inb (.un .len (.var 4)) (.int 0)) (.chk (.tri .ite (.bin .ieq (.bin .idx (.var 4) (.int 0)) (.int 0)) (.bin .inb (.un .len (.var 4)) (.int 1)) (.bool true)) (.out 2 [(.int 0), (.bin .and (.bin .ieq (.bin .idx (.var 4) (.int 0)) (.int 0)) (.bin .ieq (.bin .idx (.var 4) (.int 1)) (.int 0)))]))) (.bindc (.ite (.bin .ieq (.un (.fld 0) (.var 3)) (.int 13)) (.out 6160388 [(.bin .ieq (.un (.fld 0) (.var 3)) (.int 13))]) (.ite (.bin .ieq (.un (.fld 0) (.var 3)) (.int 14)) (.out 6160388 [(.bin .ieq (.un (.fld 0) (.var 3)) (.int 14))]) (.ite (.bin .ieq (.un (.fld 0) (.var 3)) (.int 15)) (.out 6160388 [(.bin .ieq (.un (.fld 0) (.var 3)) (.int 15))]) (.out 6160388 [(.bin .ieq (.un (.fld 0) (.var 3)) (.int 16))])))) 6160388 1 (.ite (.var 7) (.chk (.bin .inb (.un .len (.var 4)) (.int 0)) (.chk (.bin .inb (.un .len (.var 4)) (.int 1)) (.out 2 [(.int 2), (.bin .ieq (.bin .idx (.var 4) (.int 0)) (.bin .idx (.var 4) (.int 1)))]))) (.bindc (.ite (.bin .ieq (.un (.fld 0) (.var 3)) (.int 17)) (.out 6553604 [(.bin .ieq (.un (.fld 0) (.var 3)) (.int 17))]) (.out 6553604 [(.bin .ieq (.un (.fld 0) (.var 3)) (.int 18))])) 6553604 1 (.ite (.var 8) (.chk (.bin .inb (.un .len (.var 4)) (.int 0)) (.chk (.tri .ite (.bin .ieq (.bin .idx (.var 4) (.int 0)) (.int 2)) (.bin .inb (.un .len (.var 4)) (.int 1)) (.bool true)) (.out 2 [(.int 2), (.bin .and (.bin .ieq (.bin .idx (.var 4) (.int 0)) (.int 2)) (.bin .ieq (.bin .idx (.var 4) (.int 1)) (.int 2)))]))) (.ite (.bin .ieq (.un (.fld 0) (.var 3)) (.int 19)) (.chk (.bin .inb (.un .len (.var 4)) (.int 0)) (.chk (.tri .ite (.bin .ieq (.bin .idx (.var 4) (.int 0)) (.int 1)) (.bin .inb (.un .len (.var 4)) (.int 1)) (.bool true)) (.out 2 [(.int 1), (.bin .and (.bin .ieq (.bin .idx (.var 4) (.int 0)) (.int 1)) (.bin .ieq (.bin .idx (.var 4) (.int 1)) (.int 1)))]))) (.chk (.bin .inb (.un .len (.var 4)) (.int 1)) (.chk (.bin .inb (.un .len (.var 4)) (.int 0)) (.chk (.tri .ite (.bin .ieq (.bin .idx (.var 4) (.int 0)) (.int 2)) (.bin .inb (.un .len (.var 4)) (.int 1)) (.bool true)) (.chk (.tri .ite (.bin .ieq (.bin .idx (.var 4) (.int 0)) (.int 2)) (.bin .inb (.un .len (.var 4)) (.int 2)) (.bool true)) (.out 2 [(.bin .idx (.var 4) (.int 1)), (.bin .and (.bin .ieq (.bin .idx (.var 4) (.int 0)) (.int 2)) (.bin .ieq (.bin .idx (.var 4) (.int 1)) (.bin .idx (.var 4) (.int 2))))])))))))))))))))))))))))))))
theorem d97 : decompF C ⟨[.slice 107, .slice 3, .slice 3, .struct 75], [.int .i64, .bool], [false, false]⟩ Tryd.f97 h97 = some il97 := by kernel_rfl
theorem e97 (R : Fns) (a0 a1 a2 a3 : D) : den C.G R il97 [a0, a1, a2, a3] =
    ((loopL (fun s1 =>
        if (decide ((D.asI (at_ s1 0)) < (((D.asL (at_ (D.asA a3) 3))).length : Int))) then
          if (decide (0 ≤ (D.asI (at_ s1 0)) ∧ (D.asI (at_ s1 0)) < (((D.asL (at_ (D.asA a3) 3))).length : Int))) then
          (R 97 [a0, a1, a2, (at_ (D.asL (at_ (D.asA a3) 3)) (Int.toNat (D.asI (at_ s1 0))))]).bind fun r2 =>
          if (!(D.asB (at_ r2 1))) then
            some (2, [(D.int 0), (D.bool false)])
          else
            if (D.asB (U2.ev (.fits 34359738368) (D.int (((D.asL (at_ s1 1))).length : Int)) (D.int ((((at_ r2 0) :: ([] : List D))).length : Int)))) then
            some (0, [(D.int (IntKind.wrap .i64 ((D.asI (at_ s1 0)) + (1 : Int)))), (D.list ((D.asL (at_ s1 1)) ++ [(at_ r2 0)]))])
            else none
          else none
        else
          some (458758, [(at_ s1 1)])) [(D.int 0), (D.list [])]).bind fun o0 =>
    if o0.1 = 458758 then
      if ((!((D.asS (at_ (D.asA a3) 2)) == [])) && (!((D.asI (at_ (D.asA a3) 0)) == (1 : Int)))) then
        some (2, [(D.int 0), (D.bool false)])
      else
        if ((D.asI (at_ (D.asA a3) 0)) == (22 : Int)) then
          (R 103 [a0, (at_ (D.asA a3) 1), (at_ o0.2 0)]).bind fun r1 =>
          some (2, [(at_ r1 0), (at_ r1 1)])
        else
          (R 104 [(at_ (D.asA a3) 0)]).bind fun r1 =>
          if (!((D.asI (at_ r1 0)) == (((D.asL (at_ o0.2 0))).length : Int))) then
            some (2, [(D.int 0), (D.bool false)])
          else
            if ((D.asI (at_ (D.asA a3) 0)) == (0 : Int)) then
              some (2, [(D.int 0), (D.bool true)])
            else
              if ((D.asI (at_ (D.asA a3) 0)) == (2 : Int)) then
                some (2, [(D.int 2), (D.bool (((D.asI (at_ (D.asA a3) 1)) == (0 : Int)) || ((D.asI (at_ (D.asA a3) 1)) == (1 : Int))))])
              else
                if ((D.asI (at_ (D.asA a3) 0)) == (3 : Int)) then
                  (R 105 [a1, (at_ (D.asA a3) 1)]).bind fun r2 =>
                  some (2, [(at_ r2 0), (at_ r2 1)])
                else
                  if ((D.asI (at_ (D.asA a3) 0)) == (4 : Int)) then
                    (R 105 [a2, (at_ (D.asA a3) 1)]).bind fun r2 =>
                    some (2, [(at_ r2 0), (at_ r2 1)])
                  else
                    if (!((D.asI (at_ (D.asA a3) 1)) == (0 : Int))) then
                      some (2, [(D.int 0), (D.bool false)])
                    else
                      if ((D.asI (at_ (D.asA a3) 0)) == (1 : Int)) then
                        some (2, [(D.int 1), (D.bool (decide ((((D.asS (at_ (D.asA a3) 2))).length : Int) ≤ (200 : Int))))])
                      else
                        if ((D.asI (at_ (D.asA a3) 0)) == (5 : Int)) then
                          some (2, [(D.int 0), (D.bool true)])
                        else
                          if ((D.asI (at_ (D.asA a3) 0)) == (6 : Int)) then
                            if (decide (0 ≤ (0 : Int) ∧ (0 : Int) < (((D.asL (at_ o0.2 0))).length : Int))) then
                            some (2, [(D.int 2), (D.bool ((D.asI (at_ (D.asL (at_ o0.2 0)) (Int.toNat (0 : Int)))) == (2 : Int)))])
                            else none
                          else
                            if ((D.asI (at_ (D.asA a3) 0)) == (7 : Int)) then
                              if (decide (0 ≤ (0 : Int) ∧ (0 : Int) < (((D.asL (at_ o0.2 0))).length : Int))) then
                              some (2, [(D.int 0), (D.bool ((D.asI (at_ (D.asL (at_ o0.2 0)) (Int.toNat (0 : Int)))) == (0 : Int)))])
                              else none
                            else
                              if ((D.asI (at_ (D.asA a3) 0)) == (20 : Int)) then
                                if (decide (0 ≤ (0 : Int) ∧ (0 : Int) < (((D.asL (at_ o0.2 0))).length : Int))) then
                                some (2, [(D.int 0), (D.bool ((D.asI (at_ (D.asL (at_ o0.2 0)) (Int.toNat (0 : Int)))) == (1 : Int)))])
                                else none
                              else
                                (if ((D.asI (at_ (D.asA a3) 0)) == (8 : Int)) then
                                    some (5505028, [(D.bool ((D.asI (at_ (D.asA a3) 0)) == (8 : Int)))])
                                  else
                                    if ((D.asI (at_ (D.asA a3) 0)) == (9 : Int)) then
                                      some (5505028, [(D.bool ((D.asI (at_ (D.asA a3) 0)) == (9 : Int)))])
                                    else
                                      if ((D.asI (at_ (D.asA a3) 0)) == (10 : Int)) then
                                        some (5505028, [(D.bool ((D.asI (at_ (D.asA a3) 0)) == (10 : Int)))])
                                      else
                                        if ((D.asI (at_ (D.asA a3) 0)) == (11 : Int)) then
                                          some (5505028, [(D.bool ((D.asI (at_ (D.asA a3) 0)) == (11 : Int)))])
                                        else
                                          some (5505028, [(D.bool ((D.asI (at_ (D.asA a3) 0)) == (12 : Int)))])).bind fun o2 =>
                                if o2.1 = 5505028 then
                                  if (D.asB (at_ o2.2 0)) then
                                    if (decide (0 ≤ (0 : Int) ∧ (0 : Int) < (((D.asL (at_ o0.2 0))).length : Int))) then
                                    if (D.asB (if ((D.asI (at_ (D.asL (at_ o0.2 0)) (Int.toNat (0 : Int)))) == (0 : Int)) then (D.bool (decide (0 ≤ (1 : Int) ∧ (1 : Int) < (((D.asL (at_ o0.2 0))).length : Int)))) else (D.bool true))) then
                                    some (2, [(D.int 0), (D.bool (((D.asI (at_ (D.asL (at_ o0.2 0)) (Int.toNat (0 : Int)))) == (0 : Int)) && ((D.asI (at_ (D.asL (at_ o0.2 0)) (Int.toNat (1 : Int)))) == (0 : Int))))])
                                    else none
                                    else none
                                  else
                                    (if ((D.asI (at_ (D.asA a3) 0)) == (13 : Int)) then
                                        some (6160388, [(D.bool ((D.asI (at_ (D.asA a3) 0)) == (13 : Int)))])
                                      else
                                        if ((D.asI (at_ (D.asA a3) 0)) == (14 : Int)) then
                                          some (6160388, [(D.bool ((D.asI (at_ (D.asA a3) 0)) == (14 : Int)))])
                                        else
                                          if ((D.asI (at_ (D.asA a3) 0)) == (15 : Int)) then
                                            some (6160388, [(D.bool ((D.asI (at_ (D.asA a3) 0)) == (15 : Int)))])
                                          else
                                            some (6160388, [(D.bool ((D.asI (at_ (D.asA a3) 0)) == (16 : Int)))])).bind fun o3 =>
                                    if o3.1 = 6160388 then
                                      if (D.asB (at_ o3.2 0)) then
                                        if (decide (0 ≤ (0 : Int) ∧ (0 : Int) < (((D.asL (at_ o0.2 0))).length : Int))) then
                                        if (decide (0 ≤ (1 : Int) ∧ (1 : Int) < (((D.asL (at_ o0.2 0))).length : Int))) then
                                        some (2, [(D.int 2), (D.bool ((D.asI (at_ (D.asL (at_ o0.2 0)) (Int.toNat (0 : Int)))) == (D.asI (at_ (D.asL (at_ o0.2 0)) (Int.toNat (1 : Int))))))])
                                        else none
                                        else none
                                      else
                                        (if ((D.asI (at_ (D.asA a3) 0)) == (17 : Int)) then
                                            some (6553604, [(D.bool ((D.asI (at_ (D.asA a3) 0)) == (17 : Int)))])
                                          else
                                            some (6553604, [(D.bool ((D.asI (at_ (D.asA a3) 0)) == (18 : Int)))])).bind fun o4 =>
                                        if o4.1 = 6553604 then
                                          if (D.asB (at_ o4.2 0)) then
                                            if (decide (0 ≤ (0 : Int) ∧ (0 : Int) < (((D.asL (at_ o0.2 0))).length : Int))) then
                                            if (D.asB (if ((D.asI (at_ (D.asL (at_ o0.2 0)) (Int.toNat (0 : Int)))) == (2 : Int)) then (D.bool (decide (0 ≤ (1 : Int) ∧ (1 : Int) < (((D.asL (at_ o0.2 0))).length : Int)))) else (D.bool true))) then
                                            some (2, [(D.int 2), (D.bool (((D.asI (at_ (D.asL (at_ o0.2 0)) (Int.toNat (0 : Int)))) == (2 : Int)) && ((D.asI (at_ (D.asL (at_ o0.2 0)) (Int.toNat (1 : Int)))) == (2 : Int))))])
                                            else none
                                            else none
                                          else
                                            if ((D.asI (at_ (D.asA a3) 0)) == (19 : Int)) then
                                              if (decide (0 ≤ (0 : Int) ∧ (0 : Int) < (((D.asL (at_ o0.2 0))).length : Int))) then
                                              if (D.asB (if ((D.asI (at_ (D.asL (at_ o0.2 0)) (Int.toNat (0 : Int)))) == (1 : Int)) then (D.bool (decide (0 ≤ (1 : Int) ∧ (1 : Int) < (((D.asL (at_ o0.2 0))).length : Int)))) else (D.bool true))) then
                                              some (2, [(D.int 1), (D.bool (((D.asI (at_ (D.asL (at_ o0.2 0)) (Int.toNat (0 : Int)))) == (1 : Int)) && ((D.asI (at_ (D.asL (at_ o0.2 0)) (Int.toNat (1 : Int)))) == (1 : Int))))])
                                              else none
                                              else none
                                            else
                                              if (decide (0 ≤ (1 : Int) ∧ (1 : Int) < (((D.asL (at_ o0.2 0))).length : Int))) then
                                              if (decide (0 ≤ (0 : Int) ∧ (0 : Int) < (((D.asL (at_ o0.2 0))).length : Int))) then
                                              if (D.asB (if ((D.asI (at_ (D.asL (at_ o0.2 0)) (Int.toNat (0 : Int)))) == (2 : Int)) then (D.bool (decide (0 ≤ (1 : Int) ∧ (1 : Int) < (((D.asL (at_ o0.2 0))).length : Int)))) else (D.bool true))) then
                                              if (D.asB (if ((D.asI (at_ (D.asL (at_ o0.2 0)) (Int.toNat (0 : Int)))) == (2 : Int)) then (D.bool (decide (0 ≤ (2 : Int) ∧ (2 : Int) < (((D.asL (at_ o0.2 0))).length : Int)))) else (D.bool true))) then
                                              some (2, [(at_ (D.asL (at_ o0.2 0)) (Int.toNat (1 : Int))), (D.bool (((D.asI (at_ (D.asL (at_ o0.2 0)) (Int.toNat (0 : Int)))) == (2 : Int)) && ((D.asI (at_ (D.asL (at_ o0.2 0)) (Int.toNat (1 : Int)))) == (D.asI (at_ (D.asL (at_ o0.2 0)) (Int.toNat (2 : Int)))))))])
                                              else none
                                              else none
                                              else none
                                              else none
                                        else some o4
                                    else some o3
                                else some o2
    else some o0 : Option Out) := by kernel_rfl
end Go.Proofs.YtlbckmllpciglaaDoor
