/- Some functions' texts, and what they mean. Printed by a program of this claim's author. -/
import Derived.Test.YtlbckmllpciglaaDoorSyA
set_option linter.unusedVariables false
set_option linter.unusedSimpArgs false
set_option linter.all false
namespace Go.Proofs.YtlbckmllpciglaaDoor
open Go Sy
set_option maxRecDepth 100000
-- errata/erratalaw27.VmTells
def h4 : List (Nat × List (Nat × Tm × Nat)) := []
def il4 : IL := (.call [] 1 6 [] (.call [] 1 7 [(.var 0), (.var 2), (.var 3)] (.call [((.un .not (.var 6)), false)] 1 7 [(.var 1), (.var 2), (.var 3)] (.ite (.bin .or (.un .not (.var 6)) (.un .not (.var 7))) (.out 2 [(.var 5)]) (.call [] 2 10 [(.var 0), (.var 2), (.var 3)] (.call [] 2 12 [(.var 0), (.var 2), (.var 3)] (.call [] 2 13 [(.var 0), (.var 2), (.var 3)] (.call [] 2 14 [(.var 0), (.var 2), (.var 3)] (.call [((.bin .or (.un .not (.bin .ieq (.var 9) (.var 11))) (.un .not (.bin .ieq (.var 13) (.var 15)))), false)] 1 11 [(.var 8), (.var 10)] (.call [((.bin .or (.bin .or (.un .not (.bin .ieq (.var 9) (.var 11))) (.un .not (.bin .ieq (.var 13) (.var 15)))) (.un .not (.var 16))), false)] 1 15 [(.var 12), (.var 14)] (.ite (.bin .or (.bin .or (.bin .or (.un .not (.bin .ieq (.var 9) (.var 11))) (.un .not (.bin .ieq (.var 13) (.var 15)))) (.un .not (.var 16))) (.un .not (.var 17))) (.out 2 [(.bool false)]) (.call [] 2 16 [(.bin .cons (.var 0) (.bin .cons (.var 1) .lnil)), (.var 2), (.var 3)] (.call [] 2 17 [(.bin .cons (.var 0) (.bin .cons (.var 1) .lnil)), (.var 2), (.var 3)] (.call [((.un .not (.bin .ieq (.var 19) (.var 21))), false)] 1 15 [(.var 18), (.var 20)] (.ite (.bin .or (.un .not (.bin .ieq (.var 19) (.var 21))) (.un .not (.var 22))) (.out 2 [(.bool false)]) (.call [] 1 18 [(.var 0), (.var 4)] (.ite (.bin .or (.bin .ile (.var 4) (.int 0)) (.bin .ieq (.un .len (.un (.fld 0) (.var 0))) (.int 0))) (.out 2 [(.bin .and (.var 5) (.bin .ieq (.var 23) (.int 0)))]) (.chk (.un .not (.bin .ieq (.un .len (.un (.fld 0) (.var 0))) (.int 0))) (.ite (.bin .ilt (.bin (.quo .i64) (.int 1099511627776) (.un .len (.un (.fld 0) (.var 0)))) (.var 4)) (.out 2 [(.bin .and (.var 5) (.bin .ieq (.var 23) (.int 1099511627776)))]) (.out 2 [(.bin .and (.var 5) (.bin .ieq (.var 23) (.bin (.mul .i64) (.var 4) (.un .len (.un (.fld 0) (.var 0))))))]))))))))))))))))))))
theorem d4 : decompF C ⟨[.struct 25, .struct 25, .slice 3, .slice 37, .int .i64], [.bool], [false]⟩ Tryd.f4 h4 = some il4 := by kernel_rfl
theorem e4 (R : Fns) (a0 a1 a2 a3 a4 : D) : den C.G R il4 [a0, a1, a2, a3, a4] =
    ((R 6 []).bind fun r0 =>
    (R 7 [a0, a2, a3]).bind fun r1 =>
    callIf (((!(D.asB (at_ r1 0))) == false) && true) (R 7 [a1, a2, a3]) fun r2 =>
    if ((!(D.asB (at_ r1 0))) || (!(D.asB (at_ r2 0)))) then
      some (2, [(at_ r0 0)])
    else
      (R 10 [a0, a2, a3]).bind fun r3 =>
      (R 12 [a0, a2, a3]).bind fun r4 =>
      (R 13 [a0, a2, a3]).bind fun r5 =>
      (R 14 [a0, a2, a3]).bind fun r6 =>
      callIf ((((!((D.asI (at_ r3 1)) == (D.asI (at_ r4 1)))) || (!((D.asI (at_ r5 1)) == (D.asI (at_ r6 1))))) == false) && true) (R 11 [(at_ r3 0), (at_ r4 0)]) fun r7 =>
      callIf (((((!((D.asI (at_ r3 1)) == (D.asI (at_ r4 1)))) || (!((D.asI (at_ r5 1)) == (D.asI (at_ r6 1))))) || (!(D.asB (at_ r7 0)))) == false) && true) (R 15 [(at_ r5 0), (at_ r6 0)]) fun r8 =>
      if ((((!((D.asI (at_ r3 1)) == (D.asI (at_ r4 1)))) || (!((D.asI (at_ r5 1)) == (D.asI (at_ r6 1))))) || (!(D.asB (at_ r7 0)))) || (!(D.asB (at_ r8 0)))) then
        some (2, [(D.bool false)])
      else
        (R 16 [(D.list (a0 :: (a1 :: ([] : List D)))), a2, a3]).bind fun r9 =>
        (R 17 [(D.list (a0 :: (a1 :: ([] : List D)))), a2, a3]).bind fun r10 =>
        callIf (((!((D.asI (at_ r9 1)) == (D.asI (at_ r10 1)))) == false) && true) (R 15 [(at_ r9 0), (at_ r10 0)]) fun r11 =>
        if ((!((D.asI (at_ r9 1)) == (D.asI (at_ r10 1)))) || (!(D.asB (at_ r11 0)))) then
          some (2, [(D.bool false)])
        else
          (R 18 [a0, a4]).bind fun r12 =>
          if ((decide ((D.asI a4) ≤ (0 : Int))) || ((((D.asL (at_ (D.asA a0) 0))).length : Int) == (0 : Int))) then
            some (2, [(D.bool ((D.asB (at_ r0 0)) && ((D.asI (at_ r12 0)) == (0 : Int))))])
          else
            if (!((((D.asL (at_ (D.asA a0) 0))).length : Int) == (0 : Int))) then
            if (decide ((IntKind.wrap .i64 (Int.tdiv (1099511627776 : Int) (((D.asL (at_ (D.asA a0) 0))).length : Int))) < (D.asI a4))) then
              some (2, [(D.bool ((D.asB (at_ r0 0)) && ((D.asI (at_ r12 0)) == (1099511627776 : Int))))])
            else
              some (2, [(D.bool ((D.asB (at_ r0 0)) && ((D.asI (at_ r12 0)) == (IntKind.wrap .i64 ((D.asI a4) * (((D.asL (at_ (D.asA a0) 0))).length : Int))))))])
            else none : Option Out) := by kernel_rfl
-- errata/errataref27.Fits
def h8 : List (Nat × List (Nat × Tm × Nat)) := [(5, [(0, ⟨[(0, (.dat (.slice 3) (.var 0))), (1, (.dat (.slice 37) (.var 1))), (5, (.dat (.int .i64) (.var 2))), (4, (.dat (.bool) (.bool false)))], []⟩, 1), (3, ⟨[(4, (.dat (.bool) (.bool false)))], []⟩, 0)]), (15, [(0, ⟨[(6, (.dat (.int .i64) (.var 4))), (30, (.dat (.bool) (.bin .or (.un .not (.bin .ieq (.un .len (.un (.fld 1) (.bin .idx (.var 1) (.var 2)))) (.un .len (.var 0)))) (.un .not (.var 3))))), (22, (.dat (.bool) (.un .not (.bin .ieq (.un .len (.un (.fld 1) (.bin .idx (.var 1) (.var 2)))) (.un .len (.var 0)))))), (21, (.dat (.bool) (.un .not (.bin .ieq (.un .len (.un (.fld 1) (.bin .idx (.var 1) (.var 2)))) (.un .len (.var 0)))))), (20, (.dat (.int .i64) (.un .len (.var 0)))), (18, (.dat (.int .i64) (.un .len (.un (.fld 1) (.bin .idx (.var 1) (.var 2)))))), (19, (.dat (.slice 3) (.var 0))), (0, (.dat (.slice 3) (.var 0))), (17, (.dat (.slice 39) (.un (.fld 1) (.bin .idx (.var 1) (.var 2))))), (16, (.dat (.ptr 33) (.un .mkptr (.un (.fld 1) (.bin .idx (.var 1) (.var 2)))))), (15, (.dat (.ptr 37) (.un .mkptr (.bin .idx (.var 1) (.var 2))))), (14, (.dat (.int .i64) (.var 2))), (13, (.dat (.slice 37) (.var 1))), (10, (.dat (.bool) (.bin .ilt (.var 2) (.un .len (.var 1))))), (9, (.dat (.int .i64) (.un .len (.var 1)))), (7, (.dat (.int .i64) (.var 2))), (8, (.dat (.slice 37) (.var 1))), (1, (.dat (.slice 37) (.var 1))), (5, (.dat (.int .i64) (.var 2))), (4, (.dat (.bool) (.bool false)))], []⟩, 1), (5, ⟨[(34, (.dat (.bool) (.var 4))), (33, (.dat (.int .i64) (.un .len (.var 0)))), (31, (.dat (.int .i64) (.var 5))), (32, (.dat (.slice 3) (.var 0))), (6, (.dat (.int .i64) (.var 6))), (30, (.dat (.bool) (.bin .or (.un .not (.bin .ieq (.un .len (.un (.fld 1) (.bin .idx (.var 1) (.var 2)))) (.un .len (.var 0)))) (.un .not (.var 3))))), (22, (.dat (.bool) (.un .not (.bin .ieq (.un .len (.un (.fld 1) (.bin .idx (.var 1) (.var 2)))) (.un .len (.var 0)))))), (21, (.dat (.bool) (.un .not (.bin .ieq (.un .len (.un (.fld 1) (.bin .idx (.var 1) (.var 2)))) (.un .len (.var 0)))))), (20, (.dat (.int .i64) (.un .len (.var 0)))), (18, (.dat (.int .i64) (.un .len (.un (.fld 1) (.bin .idx (.var 1) (.var 2)))))), (19, (.dat (.slice 3) (.var 0))), (0, (.dat (.slice 3) (.var 0))), (17, (.dat (.slice 39) (.un (.fld 1) (.bin .idx (.var 1) (.var 2))))), (16, (.dat (.ptr 33) (.un .mkptr (.un (.fld 1) (.bin .idx (.var 1) (.var 2)))))), (15, (.dat (.ptr 37) (.un .mkptr (.bin .idx (.var 1) (.var 2))))), (14, (.dat (.int .i64) (.var 2))), (13, (.dat (.slice 37) (.var 1))), (10, (.dat (.bool) (.bin .ilt (.var 2) (.un .len (.var 1))))), (9, (.dat (.int .i64) (.un .len (.var 1)))), (7, (.dat (.int .i64) (.var 2))), (8, (.dat (.slice 37) (.var 1))), (1, (.dat (.slice 37) (.var 1))), (5, (.dat (.int .i64) (.var 2))), (4, (.dat (.bool) (.bool false)))], []⟩, 3)])]
def il8 : IL := (.bindc (.loop [(.int 0)] (.ite (.bin .ilt (.var 2) (.un .len (.var 1))) (.chk (.bin .inb (.un .len (.var 1)) (.var 2)) (.chk (.tri .ite (.un .not (.bin .ieq (.un .len (.un (.fld 1) (.bin .idx (.var 1) (.var 2)))) (.un .len (.var 0)))) (.bool true) (.bin .inb (.un .len (.var 1)) (.var 2))) (.call [((.un .not (.bin .ieq (.un .len (.un (.fld 1) (.bin .idx (.var 1) (.var 2)))) (.un .len (.var 0)))), false)] 1 23 [(.un (.fld 1) (.bin .idx (.var 1) (.var 2)))] (.ite (.bin .or (.un .not (.bin .ieq (.un .len (.un (.fld 1) (.bin .idx (.var 1) (.var 2)))) (.un .len (.var 0)))) (.un .not (.var 3))) (.out 2 [(.bool false)]) (.bindc (.loop [(.int 0)] (.ite (.bin .ilt (.var 4) (.un .len (.var 0))) (.chk (.bin .inb (.un .len (.var 1)) (.var 2)) (.chk (.bin .inb (.un .len (.un (.fld 1) (.bin .idx (.var 1) (.var 2)))) (.var 4)) (.chk (.bin .inb (.un .len (.var 0)) (.var 4)) (.ite (.un .not (.bin .ieq (.un (.fld 0) (.bin .idx (.un (.fld 1) (.bin .idx (.var 1) (.var 2))) (.var 4))) (.bin .idx (.var 0) (.var 4)))) (.out 2 [(.bool false)]) (.out 0 [(.bin (.add .i64) (.var 4) (.int 1))]))))) (.out 983048 [(.bin .ilt (.var 4) (.un .len (.var 0))), (.var 4), (.var 4)]))) 983048 3 (.out 0 [(.bin (.add .i64) (.var 2) (.int 1))])))))) (.out 327686 []))) 327686 0 (.out 2 [(.bool true)]))
theorem d8 : decompF C ⟨[.slice 3, .slice 37], [.bool], [false]⟩ Tryd.f8 h8 = some il8 := by kernel_rfl
theorem e8 (R : Fns) (a0 a1 : D) : den C.G R il8 [a0, a1] =
    ((loopL (fun s1 =>
        if (decide ((D.asI (at_ s1 0)) < (((D.asL a1)).length : Int))) then
          if (decide (0 ≤ (D.asI (at_ s1 0)) ∧ (D.asI (at_ s1 0)) < (((D.asL a1)).length : Int))) then
          if (D.asB (if (!((((D.asL (at_ (D.asA (at_ (D.asL a1) (Int.toNat (D.asI (at_ s1 0))))) 1))).length : Int) == (((D.asL a0)).length : Int))) then (D.bool true) else (D.bool (decide (0 ≤ (D.asI (at_ s1 0)) ∧ (D.asI (at_ s1 0)) < (((D.asL a1)).length : Int)))))) then
          callIf (((!((((D.asL (at_ (D.asA (at_ (D.asL a1) (Int.toNat (D.asI (at_ s1 0))))) 1))).length : Int) == (((D.asL a0)).length : Int))) == false) && true) (R 23 [(at_ (D.asA (at_ (D.asL a1) (Int.toNat (D.asI (at_ s1 0))))) 1)]) fun r2 =>
          if ((!((((D.asL (at_ (D.asA (at_ (D.asL a1) (Int.toNat (D.asI (at_ s1 0))))) 1))).length : Int) == (((D.asL a0)).length : Int))) || (!(D.asB (at_ r2 0)))) then
            some (2, [(D.bool false)])
          else
            (loopL (fun s4 =>
                if (decide ((D.asI (at_ s4 0)) < (((D.asL a0)).length : Int))) then
                  if (decide (0 ≤ (D.asI (at_ s1 0)) ∧ (D.asI (at_ s1 0)) < (((D.asL a1)).length : Int))) then
                  if (decide (0 ≤ (D.asI (at_ s4 0)) ∧ (D.asI (at_ s4 0)) < (((D.asL (at_ (D.asA (at_ (D.asL a1) (Int.toNat (D.asI (at_ s1 0))))) 1))).length : Int))) then
                  if (decide (0 ≤ (D.asI (at_ s4 0)) ∧ (D.asI (at_ s4 0)) < (((D.asL a0)).length : Int))) then
                  if (!((D.asI (at_ (D.asA (at_ (D.asL (at_ (D.asA (at_ (D.asL a1) (Int.toNat (D.asI (at_ s1 0))))) 1)) (Int.toNat (D.asI (at_ s4 0))))) 0)) == (D.asI (at_ (D.asL a0) (Int.toNat (D.asI (at_ s4 0))))))) then
                    some (2, [(D.bool false)])
                  else
                    some (0, [(D.int (IntKind.wrap .i64 ((D.asI (at_ s4 0)) + (1 : Int))))])
                  else none
                  else none
                  else none
                else
                  some (983048, [(D.bool (decide ((D.asI (at_ s4 0)) < (((D.asL a0)).length : Int)))), (at_ s4 0), (at_ s4 0)])) [(D.int 0)]).bind fun o3 =>
            if o3.1 = 983048 then
              some (0, [(D.int (IntKind.wrap .i64 ((D.asI (at_ s1 0)) + (1 : Int))))])
            else some o3
          else none
          else none
        else
          some (327686, [])) [(D.int 0)]).bind fun o0 =>
    if o0.1 = 327686 then
      some (2, [(D.bool true)])
    else some o0 : Option Out) := by kernel_rfl
-- errata/code.Verify
def h9 : List (Nat × List (Nat × Tm × Nat)) := [(15, [(0, ⟨[(1, (.dat (.slice 3) (.var 1))), (28, (.dat (.slice 52) (.un (.fld 0) (.var 0)))), (29, (.dat (.int .i64) (.un .len (.un (.fld 0) (.var 0))))), (30, (.dat (.int .i64) (.var 3))), (6, (.sli 208 0 4)), (2, (.bptr 16 [] 25)), (5, (.dat (.int .i64) (.int 0))), (4, (.dat (.int .i64) (.int 0)))], [(208, (.arr 4 (.var 4) 0)), (16, (.box 25 (.dat (.struct 25) (.var 0))))]⟩, 2), (3, ⟨[(6, (.sli 208 0 4)), (2, (.bptr 16 [] 25)), (5, (.dat (.int .i64) (.int 0))), (4, (.dat (.int .i64) (.int 0)))], [(208, (.arr 4 (.var 3) 0)), (16, (.box 25 (.dat (.struct 25) (.var 0))))]⟩, 1)])]
def il9 : IL := (.ite (.bin .or (.bin .ilt (.int 1000) (.un .len (.un (.fld 0) (.var 0)))) (.bin .ilt (.int 1000) (.un .len (.un (.fld 1) (.var 0))))) (.out 2 [(.int (-1)), (.int 6)]) (.call [] 1 24 [(.un (.fld 1) (.var 0)), (.fn 25 .lnil .lnil)] (.ite (.var 2) (.out 2 [(.int (-1)), (.int 13)]) (.chk (.bin (.ble 34359738368) (.un .len (.un (.fld 1) (.var 0))) (.un .len (.un (.fld 1) (.var 0)))) (.bindc (.loop [(.int 0), (.bin .rep (.un .len (.un (.fld 1) (.var 0))) (.bool false))] (.ite (.bin .ilt (.var 3) (.un .len (.un (.fld 0) (.var 0)))) (.chk (.bin .inb (.un .len (.un (.fld 0) (.var 0))) (.var 3)) (.call [] 1 26 [(.bin .idx (.un (.fld 0) (.var 0)) (.var 3)), (.var 1), (.un (.fld 1) (.var 0)), (.var 4)] (.ite (.un .not (.bin .ieq (.var 5) (.int 0))) (.out 2 [(.var 3), (.var 5)]) (.chk (.bin .inb (.un .len (.var 4)) (.un (.fld 1) (.bin .idx (.un (.fld 0) (.var 0)) (.var 3)))) (.out 0 [(.bin (.add .i64) (.var 3) (.int 1)), (.tri .set (.var 4) (.un (.fld 1) (.bin .idx (.un (.fld 0) (.var 0)) (.var 3))) (.bool true))]))))) (.out 983046 [(.var 4)]))) 983046 1 (.ite (.bin .or (.bin .ilt (.un (.fld 2) (.var 0)) (.int 0)) (.bin .ile (.un .len (.un (.fld 1) (.var 0))) (.un (.fld 2) (.var 0)))) (.out 2 [(.int (-1)), (.int 3)]) (.chk (.bin .inb (.un .len (.var 3)) (.un (.fld 2) (.var 0))) (.ite (.un .not (.bin .idx (.var 3) (.un (.fld 2) (.var 0)))) (.out 2 [(.int (-1)), (.int 25)]) (.out 2 [(.int (-1)), (.int 0)])))))))))
theorem d9 : decompF C ⟨[.struct 25, .slice 3], [.int .i64, .int .i64], [false, false]⟩ Tryd.f9 h9 = some il9 := by kernel_rfl
theorem e9 (R : Fns) (a0 a1 : D) : den C.G R il9 [a0, a1] =
    (if ((decide ((1000 : Int) < (((D.asL (at_ (D.asA a0) 0))).length : Int))) || (decide ((1000 : Int) < (((D.asL (at_ (D.asA a0) 1))).length : Int)))) then
      some (2, [(D.int (-1)), (D.int 6)])
    else
      (R 24 [(at_ (D.asA a0) 1), (D.fn 25 ([] : List D) ([] : List D))]).bind fun r0 =>
      if (D.asB (at_ r0 0)) then
        some (2, [(D.int (-1)), (D.int 13)])
      else
        if (D.asB (U2.ev (.ble 34359738368) (D.int (((D.asL (at_ (D.asA a0) 1))).length : Int)) (D.int (((D.asL (at_ (D.asA a0) 1))).length : Int)))) then
        (loopL (fun s2 =>
            if (decide ((D.asI (at_ s2 0)) < (((D.asL (at_ (D.asA a0) 0))).length : Int))) then
              if (decide (0 ≤ (D.asI (at_ s2 0)) ∧ (D.asI (at_ s2 0)) < (((D.asL (at_ (D.asA a0) 0))).length : Int))) then
              (R 26 [(at_ (D.asL (at_ (D.asA a0) 0)) (Int.toNat (D.asI (at_ s2 0)))), a1, (at_ (D.asA a0) 1), (at_ s2 1)]).bind fun r3 =>
              if (!((D.asI (at_ r3 0)) == (0 : Int))) then
                some (2, [(at_ s2 0), (at_ r3 0)])
              else
                if (decide (0 ≤ (D.asI (at_ (D.asA (at_ (D.asL (at_ (D.asA a0) 0)) (Int.toNat (D.asI (at_ s2 0))))) 1)) ∧ (D.asI (at_ (D.asA (at_ (D.asL (at_ (D.asA a0) 0)) (Int.toNat (D.asI (at_ s2 0))))) 1)) < (((D.asL (at_ s2 1))).length : Int))) then
                some (0, [(D.int (IntKind.wrap .i64 ((D.asI (at_ s2 0)) + (1 : Int)))), (D.list (((D.asL (at_ s2 1))).set (Int.toNat (D.asI (at_ (D.asA (at_ (D.asL (at_ (D.asA a0) 0)) (Int.toNat (D.asI (at_ s2 0))))) 1))) (D.bool true)))])
                else none
              else none
            else
              some (983046, [(at_ s2 1)])) [(D.int 0), (D.list (List.replicate (Int.toNat (((D.asL (at_ (D.asA a0) 1))).length : Int)) (D.bool false)))]).bind fun o1 =>
        if o1.1 = 983046 then
          if ((decide ((D.asI (at_ (D.asA a0) 2)) < (0 : Int))) || (decide ((((D.asL (at_ (D.asA a0) 1))).length : Int) ≤ (D.asI (at_ (D.asA a0) 2))))) then
            some (2, [(D.int (-1)), (D.int 3)])
          else
            if (decide (0 ≤ (D.asI (at_ (D.asA a0) 2)) ∧ (D.asI (at_ (D.asA a0) 2)) < (((D.asL (at_ o1.2 0))).length : Int))) then
            if (!(D.asB (at_ (D.asL (at_ o1.2 0)) (Int.toNat (D.asI (at_ (D.asA a0) 2)))))) then
              some (2, [(D.int (-1)), (D.int 25)])
            else
              some (2, [(D.int (-1)), (D.int 0)])
            else none
        else some o1
        else none : Option Out) := by kernel_rfl
-- slices.ContainsFunc[[]int,int]
def h24 : List (Nat × List (Nat × Tm × Nat)) := []
def il24 : IL := (.call [] 1 37 [(.var 0), (.var 1)] (.out 2 [(.bin .ile (.int 0) (.var 2))]))
theorem d24 : decompF C ⟨[.slice 3, .func 56], [.bool], [false]⟩ Tryd.f24 h24 = some il24 := by kernel_rfl
theorem e24 (R : Fns) (a0 a1 : D) : den C.G R il24 [a0, a1] =
    ((R 37 [a0, a1]).bind fun r0 =>
    some (2, [(D.bool (decide ((0 : Int) ≤ (D.asI (at_ r0 0)))))]) : Option Out) := by kernel_rfl
-- errata/vm.fits
def h27 : List (Nat × List (Nat × Tm × Nat)) := [(5, [(0, ⟨[(0, (.dat (.slice 3) (.var 0))), (9, (.dat (.slice 37) (.var 1))), (10, (.dat (.int .i64) (.un .len (.var 1)))), (11, (.dat (.int .i64) (.var 2))), (4, (.dat (.bool) (.bool false)))], []⟩, 1), (3, ⟨[(4, (.dat (.bool) (.bool false)))], []⟩, 0)]), (15, [(0, ⟨[(28, (.dat (.int .i64) (.un .len (.var 0)))), (29, (.dat (.int .i64) (.var 4))), (27, (.dat (.slice 3) (.var 0))), (26, (.dat (.bool) (.bin .or (.un .not (.bin .ieq (.un .len (.un (.fld 1) (.bin .idx (.var 1) (.var 2)))) (.un .len (.var 0)))) (.un .not (.var 3))))), (21, (.dat (.bool) (.un .not (.bin .ieq (.un .len (.un (.fld 1) (.bin .idx (.var 1) (.var 2)))) (.un .len (.var 0)))))), (20, (.dat (.bool) (.un .not (.bin .ieq (.un .len (.un (.fld 1) (.bin .idx (.var 1) (.var 2)))) (.un .len (.var 0)))))), (19, (.dat (.int .i64) (.un .len (.var 0)))), (17, (.dat (.int .i64) (.un .len (.un (.fld 1) (.bin .idx (.var 1) (.var 2)))))), (18, (.dat (.slice 3) (.var 0))), (0, (.dat (.slice 3) (.var 0))), (16, (.dat (.slice 39) (.un (.fld 1) (.bin .idx (.var 1) (.var 2))))), (15, (.bptr 48 [1] 33)), (14, (.dat (.struct 37) (.bin .idx (.var 1) (.var 2)))), (6, (.bptr 48 [] 37)), (13, (.dat (.ptr 37) (.un .mkptr (.bin .idx (.var 1) (.var 2))))), (9, (.dat (.slice 37) (.var 1))), (12, (.dat (.bool) (.bin .ilt (.var 2) (.un .len (.var 1))))), (10, (.dat (.int .i64) (.un .len (.var 1)))), (11, (.dat (.int .i64) (.var 2))), (4, (.dat (.bool) (.bool false)))], [(48, (.box 37 (.dat (.struct 37) (.bin .idx (.var 1) (.var 2)))))]⟩, 1), (5, ⟨[(30, (.dat (.bool) (.var 4))), (28, (.dat (.int .i64) (.un .len (.var 0)))), (29, (.dat (.int .i64) (.var 5))), (27, (.dat (.slice 3) (.var 0))), (26, (.dat (.bool) (.bin .or (.un .not (.bin .ieq (.un .len (.un (.fld 1) (.bin .idx (.var 1) (.var 2)))) (.un .len (.var 0)))) (.un .not (.var 3))))), (21, (.dat (.bool) (.un .not (.bin .ieq (.un .len (.un (.fld 1) (.bin .idx (.var 1) (.var 2)))) (.un .len (.var 0)))))), (20, (.dat (.bool) (.un .not (.bin .ieq (.un .len (.un (.fld 1) (.bin .idx (.var 1) (.var 2)))) (.un .len (.var 0)))))), (19, (.dat (.int .i64) (.un .len (.var 0)))), (17, (.dat (.int .i64) (.un .len (.un (.fld 1) (.bin .idx (.var 1) (.var 2)))))), (18, (.dat (.slice 3) (.var 0))), (0, (.dat (.slice 3) (.var 0))), (16, (.dat (.slice 39) (.un (.fld 1) (.bin .idx (.var 1) (.var 2))))), (15, (.bptr 48 [1] 33)), (14, (.dat (.struct 37) (.bin .idx (.var 1) (.var 2)))), (6, (.bptr 48 [] 37)), (13, (.dat (.ptr 37) (.un .mkptr (.bin .idx (.var 1) (.var 2))))), (9, (.dat (.slice 37) (.var 1))), (12, (.dat (.bool) (.bin .ilt (.var 2) (.un .len (.var 1))))), (10, (.dat (.int .i64) (.un .len (.var 1)))), (11, (.dat (.int .i64) (.var 2))), (4, (.dat (.bool) (.bool false)))], [(48, (.box 37 (.dat (.struct 37) (.bin .idx (.var 1) (.var 2)))))]⟩, 2)])]
def il27 : IL := (.bindc (.loop [(.int 0)] (.ite (.bin .ilt (.var 2) (.un .len (.var 1))) (.chk (.bin .inb (.un .len (.var 1)) (.var 2)) (.call [((.un .not (.bin .ieq (.un .len (.un (.fld 1) (.bin .idx (.var 1) (.var 2)))) (.un .len (.var 0)))), false)] 1 42 [(.un (.fld 1) (.bin .idx (.var 1) (.var 2)))] (.ite (.bin .or (.un .not (.bin .ieq (.un .len (.un (.fld 1) (.bin .idx (.var 1) (.var 2)))) (.un .len (.var 0)))) (.un .not (.var 3))) (.out 2 [(.bool false)]) (.bindc (.loop [(.int 0)] (.ite (.bin .ilt (.var 4) (.un .len (.var 0))) (.chk (.bin .inb (.un .len (.var 0)) (.var 4)) (.chk (.bin .inb (.un .len (.un (.fld 1) (.bin .idx (.var 1) (.var 2)))) (.var 4)) (.ite (.un .not (.bin .ieq (.un (.fld 0) (.bin .idx (.un (.fld 1) (.bin .idx (.var 1) (.var 2))) (.var 4))) (.bin .idx (.var 0) (.var 4)))) (.out 2 [(.bool false)]) (.out 0 [(.bin (.add .i64) (.var 4) (.int 1))])))) (.out 983048 [(.bin .ilt (.var 4) (.un .len (.var 0))), (.var 4)]))) 983048 2 (.out 0 [(.bin (.add .i64) (.var 2) (.int 1))]))))) (.out 327686 []))) 327686 0 (.out 2 [(.bool true)]))
theorem d27 : decompF C ⟨[.slice 3, .slice 37], [.bool], [false]⟩ Tryd.f27 h27 = some il27 := by kernel_rfl
theorem e27 (R : Fns) (a0 a1 : D) : den C.G R il27 [a0, a1] =
    ((loopL (fun s1 =>
        if (decide ((D.asI (at_ s1 0)) < (((D.asL a1)).length : Int))) then
          if (decide (0 ≤ (D.asI (at_ s1 0)) ∧ (D.asI (at_ s1 0)) < (((D.asL a1)).length : Int))) then
          callIf (((!((((D.asL (at_ (D.asA (at_ (D.asL a1) (Int.toNat (D.asI (at_ s1 0))))) 1))).length : Int) == (((D.asL a0)).length : Int))) == false) && true) (R 42 [(at_ (D.asA (at_ (D.asL a1) (Int.toNat (D.asI (at_ s1 0))))) 1)]) fun r2 =>
          if ((!((((D.asL (at_ (D.asA (at_ (D.asL a1) (Int.toNat (D.asI (at_ s1 0))))) 1))).length : Int) == (((D.asL a0)).length : Int))) || (!(D.asB (at_ r2 0)))) then
            some (2, [(D.bool false)])
          else
            (loopL (fun s4 =>
                if (decide ((D.asI (at_ s4 0)) < (((D.asL a0)).length : Int))) then
                  if (decide (0 ≤ (D.asI (at_ s4 0)) ∧ (D.asI (at_ s4 0)) < (((D.asL a0)).length : Int))) then
                  if (decide (0 ≤ (D.asI (at_ s4 0)) ∧ (D.asI (at_ s4 0)) < (((D.asL (at_ (D.asA (at_ (D.asL a1) (Int.toNat (D.asI (at_ s1 0))))) 1))).length : Int))) then
                  if (!((D.asI (at_ (D.asA (at_ (D.asL (at_ (D.asA (at_ (D.asL a1) (Int.toNat (D.asI (at_ s1 0))))) 1)) (Int.toNat (D.asI (at_ s4 0))))) 0)) == (D.asI (at_ (D.asL a0) (Int.toNat (D.asI (at_ s4 0))))))) then
                    some (2, [(D.bool false)])
                  else
                    some (0, [(D.int (IntKind.wrap .i64 ((D.asI (at_ s4 0)) + (1 : Int))))])
                  else none
                  else none
                else
                  some (983048, [(D.bool (decide ((D.asI (at_ s4 0)) < (((D.asL a0)).length : Int)))), (at_ s4 0)])) [(D.int 0)]).bind fun o3 =>
            if o3.1 = 983048 then
              some (0, [(D.int (IntKind.wrap .i64 ((D.asI (at_ s1 0)) + (1 : Int))))])
            else some o3
          else none
        else
          some (327686, [])) [(D.int 0)]).bind fun o0 =>
    if o0.1 = 327686 then
      some (2, [(D.bool true)])
    else some o0 : Option Out) := by kernel_rfl
-- errata/errataref25.Verify
def h30 : List (Nat × List (Nat × Tm × Nat)) := [(21, [(0, ⟨[(1, (.dat (.slice 3) (.var 1))), (8, (.dat (.int .i64) (.var 2))), (7, (.sli 392 0 4)), (2, (.bptr 16 [] 25)), (5, (.dat (.int .i64) (.int 0))), (4, (.dat (.int .i64) (.int 0)))], [(392, (.arr 4 (.var 3) 0)), (16, (.box 25 (.dat (.struct 25) (.var 0))))]⟩, 2), (5, ⟨[(7, (.sli 392 0 4)), (2, (.bptr 16 [] 25)), (5, (.dat (.int .i64) (.int 0))), (4, (.dat (.int .i64) (.int 0)))], [(392, (.arr 4 (.var 2) 0)), (16, (.box 25 (.dat (.struct 25) (.var 0))))]⟩, 1)]), (49, [(0, ⟨[(12, (.dat (.int .i64) (.var 9))), (108, (.dat (.bool) (.bin .and (.bin .ieq (.un (.fld 0) (.bin .idx (.un (.fld 0) (.var 0)) (.var 2))) (.int 3)) (.bin .or (.bin .ilt (.un (.fld 5) (.bin .idx (.un (.fld 0) (.var 0)) (.var 2))) (.int 0)) (.bin .ile (.un .len (.var 1)) (.un (.fld 5) (.bin .idx (.un (.fld 0) (.var 0)) (.var 2)))))))), (1, (.dat (.slice 3) (.var 1))), (97, (.dat (.bool) (.bin .ieq (.un (.fld 0) (.bin .idx (.un (.fld 0) (.var 0)) (.var 2))) (.int 3)))), (96, (.dat (.bool) (.bin .ieq (.un (.fld 0) (.bin .idx (.un (.fld 0) (.var 0)) (.var 2))) (.int 3)))), (95, (.dat (.int .i64) (.un (.fld 0) (.bin .idx (.un (.fld 0) (.var 0)) (.var 2))))), (94, (.bptr 72 [0] 3)), (75, (.dat (.bool) (.var 6))), (74, (.dat (.int .i64) (.un .len (.bin .app (.bin .cons (.un (.fld 1) (.bin .idx (.un (.fld 0) (.var 0)) (.var 2))) .lnil) (.var 5))))), (72, (.dat (.int .i64) (.var 7))), (73, (.sli 544 0 3)), (10, (.sli 544 0 3)), (11, (.dat (.int .i64) (.var 8))), (71, (.sli 544 0 3)), (70, (.dat (.slice 3) (.var 5))), (69, (.dat (.struct 52) (.bin .idx (.un (.fld 0) (.var 0)) (.var 2)))), (67, (.dat (.int .i64) (.un (.fld 1) (.bin .idx (.un (.fld 0) (.var 0)) (.var 2))))), (66, (.bptr 72 [1] 3)), (64, (.dat (.bool) (.un .not (.var 4)))), (63, (.dat (.bool) (.var 4))), (62, (.dat (.struct 52) (.bin .idx (.un (.fld 0) (.var 0)) (.var 2)))), (61, (.dat (.struct 52) (.bin .idx (.un (.fld 0) (.var 0)) (.var 2)))), (9, (.bptr 72 [] 52)), (60, (.dat (.ptr 52) (.un .mkptr (.bin .idx (.un (.fld 0) (.var 0)) (.var 2))))), (59, (.dat (.int .i64) (.var 2))), (58, (.dat (.slice 52) (.un (.fld 0) (.var 0)))), (57, (.bptr 16 [0] 22)), (54, (.dat (.bool) (.bin .ilt (.var 2) (.un .len (.un (.fld 0) (.var 0)))))), (53, (.dat (.int .i64) (.un .len (.un (.fld 0) (.var 0))))), (50, (.dat (.int .i64) (.var 2))), (52, (.dat (.slice 52) (.un (.fld 0) (.var 0)))), (51, (.bptr 16 [0] 22)), (8, (.dat (.int .i64) (.var 2))), (7, (.sli 392 0 4)), (2, (.bptr 16 [] 25)), (5, (.dat (.int .i64) (.int 0))), (4, (.dat (.int .i64) (.int 0)))], [(72, (.box 52 (.dat (.struct 52) (.bin .idx (.un (.fld 0) (.var 0)) (.var 2))))), (544, (.arr 3 (.bin .app (.bin .cons (.un (.fld 1) (.bin .idx (.un (.fld 0) (.var 0)) (.var 2))) .lnil) (.var 5)) 0)), (16, (.box 25 (.dat (.struct 25) (.var 0)))), (392, (.arr 4 (.var 3) 0))]⟩, 1), (9, ⟨[(113, (.dat (.bool) (.var 9))), (112, (.dat (.int .i64) (.un .len (.bin .app (.bin .cons (.un (.fld 1) (.bin .idx (.un (.fld 0) (.var 0)) (.var 2))) .lnil) (.var 5))))), (110, (.dat (.int .i64) (.var 10))), (111, (.sli 544 0 3)), (12, (.dat (.int .i64) (.var 11))), (108, (.dat (.bool) (.bin .and (.bin .ieq (.un (.fld 0) (.bin .idx (.un (.fld 0) (.var 0)) (.var 2))) (.int 3)) (.bin .or (.bin .ilt (.un (.fld 5) (.bin .idx (.un (.fld 0) (.var 0)) (.var 2))) (.int 0)) (.bin .ile (.un .len (.var 1)) (.un (.fld 5) (.bin .idx (.un (.fld 0) (.var 0)) (.var 2)))))))), (1, (.dat (.slice 3) (.var 1))), (97, (.dat (.bool) (.bin .ieq (.un (.fld 0) (.bin .idx (.un (.fld 0) (.var 0)) (.var 2))) (.int 3)))), (96, (.dat (.bool) (.bin .ieq (.un (.fld 0) (.bin .idx (.un (.fld 0) (.var 0)) (.var 2))) (.int 3)))), (95, (.dat (.int .i64) (.un (.fld 0) (.bin .idx (.un (.fld 0) (.var 0)) (.var 2))))), (94, (.bptr 72 [0] 3)), (75, (.dat (.bool) (.var 6))), (74, (.dat (.int .i64) (.un .len (.bin .app (.bin .cons (.un (.fld 1) (.bin .idx (.un (.fld 0) (.var 0)) (.var 2))) .lnil) (.var 5))))), (72, (.dat (.int .i64) (.var 7))), (73, (.sli 544 0 3)), (10, (.sli 544 0 3)), (11, (.dat (.int .i64) (.var 8))), (71, (.sli 544 0 3)), (70, (.dat (.slice 3) (.var 5))), (69, (.dat (.struct 52) (.bin .idx (.un (.fld 0) (.var 0)) (.var 2)))), (67, (.dat (.int .i64) (.un (.fld 1) (.bin .idx (.un (.fld 0) (.var 0)) (.var 2))))), (66, (.bptr 72 [1] 3)), (64, (.dat (.bool) (.un .not (.var 4)))), (63, (.dat (.bool) (.var 4))), (62, (.dat (.struct 52) (.bin .idx (.un (.fld 0) (.var 0)) (.var 2)))), (61, (.dat (.struct 52) (.bin .idx (.un (.fld 0) (.var 0)) (.var 2)))), (9, (.bptr 72 [] 52)), (60, (.dat (.ptr 52) (.un .mkptr (.bin .idx (.un (.fld 0) (.var 0)) (.var 2))))), (59, (.dat (.int .i64) (.var 2))), (58, (.dat (.slice 52) (.un (.fld 0) (.var 0)))), (57, (.bptr 16 [0] 22)), (54, (.dat (.bool) (.bin .ilt (.var 2) (.un .len (.un (.fld 0) (.var 0)))))), (53, (.dat (.int .i64) (.un .len (.un (.fld 0) (.var 0))))), (50, (.dat (.int .i64) (.var 2))), (52, (.dat (.slice 52) (.un (.fld 0) (.var 0)))), (51, (.bptr 16 [0] 22)), (8, (.dat (.int .i64) (.var 2))), (7, (.sli 392 0 4)), (2, (.bptr 16 [] 25)), (5, (.dat (.int .i64) (.int 0))), (4, (.dat (.int .i64) (.int 0)))], [(544, (.arr 3 (.bin .app (.bin .cons (.un (.fld 1) (.bin .idx (.un (.fld 0) (.var 0)) (.var 2))) .lnil) (.var 5)) 0)), (72, (.box 52 (.dat (.struct 52) (.bin .idx (.un (.fld 0) (.var 0)) (.var 2))))), (16, (.box 25 (.dat (.struct 25) (.var 0)))), (392, (.arr 4 (.var 3) 0))]⟩, 3)]), (35, [(0, ⟨[(1, (.dat (.slice 3) (.var 1))), (10, (.sli 544 0 3)), (11, (.dat (.int .i64) (.var 6))), (71, (.sli 544 0 3)), (70, (.dat (.slice 3) (.var 5))), (69, (.dat (.struct 52) (.bin .idx (.un (.fld 0) (.var 0)) (.var 2)))), (67, (.dat (.int .i64) (.un (.fld 1) (.bin .idx (.un (.fld 0) (.var 0)) (.var 2))))), (66, (.bptr 72 [1] 3)), (64, (.dat (.bool) (.un .not (.var 4)))), (63, (.dat (.bool) (.var 4))), (62, (.dat (.struct 52) (.bin .idx (.un (.fld 0) (.var 0)) (.var 2)))), (61, (.dat (.struct 52) (.bin .idx (.un (.fld 0) (.var 0)) (.var 2)))), (9, (.bptr 72 [] 52)), (60, (.dat (.ptr 52) (.un .mkptr (.bin .idx (.un (.fld 0) (.var 0)) (.var 2))))), (59, (.dat (.int .i64) (.var 2))), (58, (.dat (.slice 52) (.un (.fld 0) (.var 0)))), (57, (.bptr 16 [0] 22)), (54, (.dat (.bool) (.bin .ilt (.var 2) (.un .len (.un (.fld 0) (.var 0)))))), (53, (.dat (.int .i64) (.un .len (.un (.fld 0) (.var 0))))), (50, (.dat (.int .i64) (.var 2))), (52, (.dat (.slice 52) (.un (.fld 0) (.var 0)))), (51, (.bptr 16 [0] 22)), (8, (.dat (.int .i64) (.var 2))), (7, (.sli 392 0 4)), (2, (.bptr 16 [] 25)), (5, (.dat (.int .i64) (.int 0))), (4, (.dat (.int .i64) (.int 0)))], [(544, (.arr 3 (.bin .app (.bin .cons (.un (.fld 1) (.bin .idx (.un (.fld 0) (.var 0)) (.var 2))) .lnil) (.var 5)) 0)), (72, (.box 52 (.dat (.struct 52) (.bin .idx (.un (.fld 0) (.var 0)) (.var 2))))), (16, (.box 25 (.dat (.struct 25) (.var 0)))), (392, (.arr 4 (.var 3) 0))]⟩, 1), (7, ⟨[(1, (.dat (.slice 3) (.var 1))), (75, (.dat (.bool) (.var 6))), (74, (.dat (.int .i64) (.un .len (.bin .app (.bin .cons (.un (.fld 1) (.bin .idx (.un (.fld 0) (.var 0)) (.var 2))) .lnil) (.var 5))))), (72, (.dat (.int .i64) (.var 7))), (73, (.sli 544 0 3)), (10, (.sli 544 0 3)), (11, (.dat (.int .i64) (.var 8))), (71, (.sli 544 0 3)), (70, (.dat (.slice 3) (.var 5))), (69, (.dat (.struct 52) (.bin .idx (.un (.fld 0) (.var 0)) (.var 2)))), (67, (.dat (.int .i64) (.un (.fld 1) (.bin .idx (.un (.fld 0) (.var 0)) (.var 2))))), (66, (.bptr 72 [1] 3)), (64, (.dat (.bool) (.un .not (.var 4)))), (63, (.dat (.bool) (.var 4))), (62, (.dat (.struct 52) (.bin .idx (.un (.fld 0) (.var 0)) (.var 2)))), (61, (.dat (.struct 52) (.bin .idx (.un (.fld 0) (.var 0)) (.var 2)))), (9, (.bptr 72 [] 52)), (60, (.dat (.ptr 52) (.un .mkptr (.bin .idx (.un (.fld 0) (.var 0)) (.var 2))))), (59, (.dat (.int .i64) (.var 2))), (58, (.dat (.slice 52) (.un (.fld 0) (.var 0)))), (57, (.bptr 16 [0] 22)), (54, (.dat (.bool) (.bin .ilt (.var 2) (.un .len (.un (.fld 0) (.var 0)))))), (53, (.dat (.int .i64) (.un .len (.un (.fld 0) (.var 0))))), (50, (.dat (.int .i64) (.var 2))), (52, (.dat (.slice 52) (.un (.fld 0) (.var 0)))), (51, (.bptr 16 [0] 22)), (8, (.dat (.int .i64) (.var 2))), (7, (.sli 392 0 4)), (2, (.bptr 16 [] 25)), (5, (.dat (.int .i64) (.int 0))), (4, (.dat (.int .i64) (.int 0)))], [(544, (.arr 3 (.bin .app (.bin .cons (.un (.fld 1) (.bin .idx (.un (.fld 0) (.var 0)) (.var 2))) .lnil) (.var 5)) 0)), (72, (.box 52 (.dat (.struct 52) (.bin .idx (.un (.fld 0) (.var 0)) (.var 2))))), (16, (.box 25 (.dat (.struct 25) (.var 0)))), (392, (.arr 4 (.var 3) 0))]⟩, 3)]), (9, [(0, ⟨[(6, (.dat (.int .i64) (.var 2))), (1, (.dat (.slice 3) (.var 1))), (2, (.bptr 16 [] 25)), (5, (.dat (.int .i64) (.int 0))), (4, (.dat (.int .i64) (.int 0)))], [(16, (.box 25 (.dat (.struct 25) (.var 0))))]⟩, 1), (3, ⟨[(1, (.dat (.slice 3) (.var 1))), (2, (.bptr 16 [] 25)), (5, (.dat (.int .i64) (.int 0))), (4, (.dat (.int .i64) (.int 0)))], [(16, (.box 25 (.dat (.struct 25) (.var 0))))]⟩, 0)])]
def il30 : IL := (.ite (.bin .or (.bin .ilt (.int 1000) (.un .len (.un (.fld 0) (.var 0)))) (.bin .ilt (.int 1000) (.un .len (.un (.fld 1) (.var 0))))) (.out 2 [(.int (-1)), (.int 6)]) (.bindc (.loop [(.int 0)] (.ite (.bin .ilt (.var 2) (.un .len (.un (.fld 1) (.var 0)))) (.chk (.bin .inb (.un .len (.un (.fld 1) (.var 0))) (.var 2)) (.chk (.tri .ite (.bin .ilt (.bin .idx (.un (.fld 1) (.var 0)) (.var 2)) (.int 0)) (.bool true) (.bin .inb (.un .len (.un (.fld 1) (.var 0))) (.var 2))) (.ite (.bin .or (.bin .ilt (.bin .idx (.un (.fld 1) (.var 0)) (.var 2)) (.int 0)) (.bin .ile (.int 3) (.bin .idx (.un (.fld 1) (.var 0)) (.var 2)))) (.out 2 [(.int (-1)), (.int 13)]) (.out 0 [(.bin (.add .i64) (.var 2) (.int 1))])))) (.out 589830 []))) 589830 0 (.chk (.bin (.ble 34359738368) (.un .len (.un (.fld 1) (.var 0))) (.un .len (.un (.fld 1) (.var 0)))) (.bindc (.loop [(.int 0), (.bin .rep (.un .len (.un (.fld 1) (.var 0))) (.bool false))] (.ite (.bin .ilt (.var 2) (.un .len (.un (.fld 0) (.var 0)))) (.chk (.bin .inb (.un .len (.un (.fld 0) (.var 0))) (.var 2)) (.call [] 1 48 [(.bin .idx (.un (.fld 0) (.var 0)) (.var 2))] (.ite (.un .not (.var 4)) (.out 2 [(.var 2), (.int 2)]) (.call [] 1 49 [(.bin .idx (.un (.fld 0) (.var 0)) (.var 2))] (.chk (.bin (.fits 34359738368) (.un .len (.bin .cons (.un (.fld 1) (.bin .idx (.un (.fld 0) (.var 0)) (.var 2))) .lnil)) (.un .len (.var 5))) (.bindc (.loop [(.int 0)] (.ite (.bin .ilt (.var 6) (.un .len (.bin .app (.bin .cons (.un (.fld 1) (.bin .idx (.un (.fld 0) (.var 0)) (.var 2))) .lnil) (.var 5)))) (.chk (.bin .inb (.un .len (.bin .app (.bin .cons (.un (.fld 1) (.bin .idx (.un (.fld 0) (.var 0)) (.var 2))) .lnil) (.var 5))) (.var 6)) (.chk (.tri .ite (.bin .ilt (.bin .idx (.bin .app (.bin .cons (.un (.fld 1) (.bin .idx (.un (.fld 0) (.var 0)) (.var 2))) .lnil) (.var 5)) (.var 6)) (.int 0)) (.bool true) (.bin .inb (.un .len (.bin .app (.bin .cons (.un (.fld 1) (.bin .idx (.un (.fld 0) (.var 0)) (.var 2))) .lnil) (.var 5))) (.var 6))) (.ite (.bin .or (.bin .ilt (.bin .idx (.bin .app (.bin .cons (.un (.fld 1) (.bin .idx (.un (.fld 0) (.var 0)) (.var 2))) .lnil) (.var 5)) (.var 6)) (.int 0)) (.bin .ile (.un .len (.un (.fld 1) (.var 0))) (.bin .idx (.bin .app (.bin .cons (.un (.fld 1) (.bin .idx (.un (.fld 0) (.var 0)) (.var 2))) .lnil) (.var 5)) (.var 6)))) (.out 2 [(.var 2), (.int 3)]) (.out 0 [(.bin (.add .i64) (.var 6) (.int 1))])))) (.out 2293770 [(.bin .ilt (.var 6) (.un .len (.bin .app (.bin .cons (.un (.fld 1) (.bin .idx (.un (.fld 0) (.var 0)) (.var 2))) .lnil) (.var 5)))), (.var 6), (.var 6)]))) 2293770 3 (.ite (.bin .and (.bin .ieq (.un (.fld 0) (.bin .idx (.un (.fld 0) (.var 0)) (.var 2))) (.int 3)) (.bin .or (.bin .ilt (.un (.fld 5) (.bin .idx (.un (.fld 0) (.var 0)) (.var 2))) (.int 0)) (.bin .ile (.un .len (.var 1)) (.un (.fld 5) (.bin .idx (.un (.fld 0) (.var 0)) (.var 2)))))) (.out 2 [(.var 2), (.int 3)]) (.bindc (.loop [(.int 1)] (.ite (.bin .ilt (.var 9) (.un .len (.bin .app (.bin .cons (.un (.fld 1) (.bin .idx (.un (.fld 0) (.var 0)) (.var 2))) .lnil) (.var 5)))) (.chk (.bin .inb (.un .len (.bin .app (.bin .cons (.un (.fld 1) (.bin .idx (.un (.fld 0) (.var 0)) (.var 2))) .lnil) (.var 5))) (.var 9)) (.chk (.bin .inb (.un .len (.var 3)) (.bin .idx (.bin .app (.bin .cons (.un (.fld 1) (.bin .idx (.un (.fld 0) (.var 0)) (.var 2))) .lnil) (.var 5)) (.var 9))) (.ite (.un .not (.bin .idx (.var 3) (.bin .idx (.bin .app (.bin .cons (.un (.fld 1) (.bin .idx (.un (.fld 0) (.var 0)) (.var 2))) .lnil) (.var 5)) (.var 9)))) (.out 2 [(.var 2), (.int 25)]) (.out 0 [(.bin (.add .i64) (.var 9) (.int 1))])))) (.out 3211276 [(.bin .ilt (.var 9) (.un .len (.bin .app (.bin .cons (.un (.fld 1) (.bin .idx (.un (.fld 0) (.var 0)) (.var 2))) .lnil) (.var 5)))), (.var 9), (.var 9)]))) 3211276 3 (.call [] 2 50 [(.bin .idx (.un (.fld 0) (.var 0)) (.var 2)), (.var 1), (.un (.fld 1) (.var 0))] (.chk (.tri .ite (.un .not (.var 13)) (.bool true) (.bin .inb (.un .len (.un (.fld 1) (.var 0))) (.un (.fld 1) (.bin .idx (.un (.fld 0) (.var 0)) (.var 2))))) (.ite (.bin .or (.un .not (.var 13)) (.un .not (.bin .ieq (.var 12) (.bin .idx (.un (.fld 1) (.var 0)) (.un (.fld 1) (.bin .idx (.un (.fld 0) (.var 0)) (.var 2))))))) (.out 2 [(.var 2), (.int 13)]) (.chk (.bin .inb (.un .len (.var 3)) (.un (.fld 1) (.bin .idx (.un (.fld 0) (.var 0)) (.var 2)))) (.out 0 [(.bin (.add .i64) (.var 2) (.int 1)), (.tri .set (.var 3) (.un (.fld 1) (.bin .idx (.un (.fld 0) (.var 0)) (.var 2))) (.bool true))]))))))))))))) (.out 1376264 [(.var 3)]))) 1376264 1 (.ite (.bin .or (.bin .ilt (.un (.fld 2) (.var 0)) (.int 0)) (.bin .ile (.un .len (.un (.fld 1) (.var 0))) (.un (.fld 2) (.var 0)))) (.out 2 [(.int (-1)), (.int 3)]) (.chk (.bin .inb (.un .len (.var 2)) (.un (.fld 2) (.var 0))) (.ite (.un .not (.bin .idx (.var 2) (.un (.fld 2) (.var 0)))) (.out 2 [(.int (-1)), (.int 25)]) (.out 2 [(.int (-1)), (.int 0)]))))))))
theorem d30 : decompF C ⟨[.struct 25, .slice 3], [.int .i64, .int .i64], [false, false]⟩ Tryd.f30 h30 = some il30 := by kernel_rfl
theorem e30 (R : Fns) (a0 a1 : D) : den C.G R il30 [a0, a1] =
    (if ((decide ((1000 : Int) < (((D.asL (at_ (D.asA a0) 0))).length : Int))) || (decide ((1000 : Int) < (((D.asL (at_ (D.asA a0) 1))).length : Int)))) then
      some (2, [(D.int (-1)), (D.int 6)])
    else
      (loopL (fun s1 =>
          if (decide ((D.asI (at_ s1 0)) < (((D.asL (at_ (D.asA a0) 1))).length : Int))) then
            if (decide (0 ≤ (D.asI (at_ s1 0)) ∧ (D.asI (at_ s1 0)) < (((D.asL (at_ (D.asA a0) 1))).length : Int))) then
            if (D.asB (if (decide ((D.asI (at_ (D.asL (at_ (D.asA a0) 1)) (Int.toNat (D.asI (at_ s1 0))))) < (0 : Int))) then (D.bool true) else (D.bool (decide (0 ≤ (D.asI (at_ s1 0)) ∧ (D.asI (at_ s1 0)) < (((D.asL (at_ (D.asA a0) 1))).length : Int)))))) then
            if ((decide ((D.asI (at_ (D.asL (at_ (D.asA a0) 1)) (Int.toNat (D.asI (at_ s1 0))))) < (0 : Int))) || (decide ((3 : Int) ≤ (D.asI (at_ (D.asL (at_ (D.asA a0) 1)) (Int.toNat (D.asI (at_ s1 0)))))))) then
              some (2, [(D.int (-1)), (D.int 13)])
            else
              some (0, [(D.int (IntKind.wrap .i64 ((D.asI (at_ s1 0)) + (1 : Int))))])
            else none
            else none
          else
            some (589830, [])) [(D.int 0)]).bind fun o0 =>
      if o0.1 = 589830 then
        if (D.asB (U2.ev (.ble 34359738368) (D.int (((D.asL (at_ (D.asA a0) 1))).length : Int)) (D.int (((D.asL (at_ (D.asA a0) 1))).length : Int)))) then
        (loopL (fun s2 =>
            if (decide ((D.asI (at_ s2 0)) < (((D.asL (at_ (D.asA a0) 0))).length : Int))) then
              if (decide (0 ≤ (D.asI (at_ s2 0)) ∧ (D.asI (at_ s2 0)) < (((D.asL (at_ (D.asA a0) 0))).length : Int))) then
              (R 48 [(at_ (D.asL (at_ (D.asA a0) 0)) (Int.toNat (D.asI (at_ s2 0))))]).bind fun r3 =>
              if (!(D.asB (at_ r3 0))) then
                some (2, [(at_ s2 0), (D.int 2)])
              else
                (R 49 [(at_ (D.asL (at_ (D.asA a0) 0)) (Int.toNat (D.asI (at_ s2 0))))]).bind fun r4 =>
                if (D.asB (U2.ev (.fits 34359738368) (D.int ((((at_ (D.asA (at_ (D.asL (at_ (D.asA a0) 0)) (Int.toNat (D.asI (at_ s2 0))))) 1) :: ([] : List D))).length : Int)) (D.int (((D.asL (at_ r4 0))).length : Int)))) then
                (loopL (fun s6 =>
                    if (decide ((D.asI (at_ s6 0)) < (((((at_ (D.asA (at_ (D.asL (at_ (D.asA a0) 0)) (Int.toNat (D.asI (at_ s2 0))))) 1) :: ([] : List D)) ++ (D.asL (at_ r4 0)))).length : Int))) then
                      if (decide (0 ≤ (D.asI (at_ s6 0)) ∧ (D.asI (at_ s6 0)) < (((((at_ (D.asA (at_ (D.asL (at_ (D.asA a0) 0)) (Int.toNat (D.asI (at_ s2 0))))) 1) :: ([] : List D)) ++ (D.asL (at_ r4 0)))).length : Int))) then
                      if (D.asB (if (decide ((D.asI (at_ (((at_ (D.asA (at_ (D.asL (at_ (D.asA a0) 0)) (Int.toNat (D.asI (at_ s2 0))))) 1) :: ([] : List D)) ++ (D.asL (at_ r4 0))) (Int.toNat (D.asI (at_ s6 0))))) < (0 : Int))) then (D.bool true) else (D.bool (decide (0 ≤ (D.asI (at_ s6 0)) ∧ (D.asI (at_ s6 0)) < (((((at_ (D.asA (at_ (D.asL (at_ (D.asA a0) 0)) (Int.toNat (D.asI (at_ s2 0))))) 1) :: ([] : List D)) ++ (D.asL (at_ r4 0)))).length : Int)))))) then
                      if ((decide ((D.asI (at_ (((at_ (D.asA (at_ (D.asL (at_ (D.asA a0) 0)) (Int.toNat (D.asI (at_ s2 0))))) 1) :: ([] : List D)) ++ (D.asL (at_ r4 0))) (Int.toNat (D.asI (at_ s6 0))))) < (0 : Int))) || (decide ((((D.asL (at_ (D.asA a0) 1))).length : Int) ≤ (D.asI (at_ (((at_ (D.asA (at_ (D.asL (at_ (D.asA a0) 0)) (Int.toNat (D.asI (at_ s2 0))))) 1) :: ([] : List D)) ++ (D.asL (at_ r4 0))) (Int.toNat (D.asI (at_ s6 0)))))))) then
                        some (2, [(at_ s2 0), (D.int 3)])
                      else
                        some (0, [(D.int (IntKind.wrap .i64 ((D.asI (at_ s6 0)) + (1 : Int))))])
                      else none
                      else none
                    else
                      some (2293770, [(D.bool (decide ((D.asI (at_ s6 0)) < (((((at_ (D.asA (at_ (D.asL (at_ (D.asA a0) 0)) (Int.toNat (D.asI (at_ s2 0))))) 1) :: ([] : List D)) ++ (D.asL (at_ r4 0)))).length : Int)))), (at_ s6 0), (at_ s6 0)])) [(D.int 0)]).bind fun o5 =>
                if o5.1 = 2293770 then
                  if (((D.asI (at_ (D.asA (at_ (D.asL (at_ (D.asA a0) 0)) (Int.toNat (D.asI (at_ s2 0))))) 0)) == (3 : Int)) && ((decide ((D.asI (at_ (D.asA (at_ (D.asL (at_ (D.asA a0) 0)) (Int.toNat (D.asI (at_ s2 0))))) 5)) < (0 : Int))) || (decide ((((D.asL a1)).length : Int) ≤ (D.asI (at_ (D.asA (at_ (D.asL (at_ (D.asA a0) 0)) (Int.toNat (D.asI (at_ s2 0))))) 5)))))) then
                    some (2, [(at_ s2 0), (D.int 3)])
                  else
                    (loopL (fun s7 =>
                        if (decide ((D.asI (at_ s7 0)) < (((((at_ (D.asA (at_ (D.asL (at_ (D.asA a0) 0)) (Int.toNat (D.asI (at_ s2 0))))) 1) :: ([] : List D)) ++ (D.asL (at_ r4 0)))).length : Int))) then
                          if (decide (0 ≤ (D.asI (at_ s7 0)) ∧ (D.asI (at_ s7 0)) < (((((at_ (D.asA (at_ (D.asL (at_ (D.asA a0) 0)) (Int.toNat (D.asI (at_ s2 0))))) 1) :: ([] : List D)) ++ (D.asL (at_ r4 0)))).length : Int))) then
                          if (decide (0 ≤ (D.asI (at_ (((at_ (D.asA (at_ (D.asL (at_ (D.asA a0) 0)) (Int.toNat (D.asI (at_ s2 0))))) 1) :: ([] : List D)) ++ (D.asL (at_ r4 0))) (Int.toNat (D.asI (at_ s7 0))))) ∧ (D.asI (at_ (((at_ (D.asA (at_ (D.asL (at_ (D.asA a0) 0)) (Int.toNat (D.asI (at_ s2 0))))) 1) :: ([] : List D)) ++ (D.asL (at_ r4 0))) (Int.toNat (D.asI (at_ s7 0))))) < (((D.asL (at_ s2 1))).length : Int))) then
                          if (!(D.asB (at_ (D.asL (at_ s2 1)) (Int.toNat (D.asI (at_ (((at_ (D.asA (at_ (D.asL (at_ (D.asA a0) 0)) (Int.toNat (D.asI (at_ s2 0))))) 1) :: ([] : List D)) ++ (D.asL (at_ r4 0))) (Int.toNat (D.asI (at_ s7 0))))))))) then
                            some (2, [(at_ s2 0), (D.int 25)])
                          else
                            some (0, [(D.int (IntKind.wrap .i64 ((D.asI (at_ s7 0)) + (1 : Int))))])
                          else none
                          else none
                        else
                          some (3211276, [(D.bool (decide ((D.asI (at_ s7 0)) < (((((at_ (D.asA (at_ (D.asL (at_ (D.asA a0) 0)) (Int.toNat (D.asI (at_ s2 0))))) 1) :: ([] : List D)) ++ (D.asL (at_ r4 0)))).length : Int)))), (at_ s7 0), (at_ s7 0)])) [(D.int 1)]).bind fun o6 =>
                    if o6.1 = 3211276 then
                      (R 50 [(at_ (D.asL (at_ (D.asA a0) 0)) (Int.toNat (D.asI (at_ s2 0)))), a1, (at_ (D.asA a0) 1)]).bind fun r7 =>
                      if (D.asB (if (!(D.asB (at_ r7 1))) then (D.bool true) else (D.bool (decide (0 ≤ (D.asI (at_ (D.asA (at_ (D.asL (at_ (D.asA a0) 0)) (Int.toNat (D.asI (at_ s2 0))))) 1)) ∧ (D.asI (at_ (D.asA (at_ (D.asL (at_ (D.asA a0) 0)) (Int.toNat (D.asI (at_ s2 0))))) 1)) < (((D.asL (at_ (D.asA a0) 1))).length : Int)))))) then
                      if ((!(D.asB (at_ r7 1))) || (!((D.asI (at_ r7 0)) == (D.asI (at_ (D.asL (at_ (D.asA a0) 1)) (Int.toNat (D.asI (at_ (D.asA (at_ (D.asL (at_ (D.asA a0) 0)) (Int.toNat (D.asI (at_ s2 0))))) 1)))))))) then
                        some (2, [(at_ s2 0), (D.int 13)])
                      else
                        if (decide (0 ≤ (D.asI (at_ (D.asA (at_ (D.asL (at_ (D.asA a0) 0)) (Int.toNat (D.asI (at_ s2 0))))) 1)) ∧ (D.asI (at_ (D.asA (at_ (D.asL (at_ (D.asA a0) 0)) (Int.toNat (D.asI (at_ s2 0))))) 1)) < (((D.asL (at_ s2 1))).length : Int))) then
                        some (0, [(D.int (IntKind.wrap .i64 ((D.asI (at_ s2 0)) + (1 : Int)))), (D.list (((D.asL (at_ s2 1))).set (Int.toNat (D.asI (at_ (D.asA (at_ (D.asL (at_ (D.asA a0) 0)) (Int.toNat (D.asI (at_ s2 0))))) 1))) (D.bool true)))])
                        else none
                      else none
                    else some o6
                else some o5
                else none
              else none
            else
              some (1376264, [(at_ s2 1)])) [(D.int 0), (D.list (List.replicate (Int.toNat (((D.asL (at_ (D.asA a0) 1))).length : Int)) (D.bool false)))]).bind fun o1 =>
        if o1.1 = 1376264 then
          if ((decide ((D.asI (at_ (D.asA a0) 2)) < (0 : Int))) || (decide ((((D.asL (at_ (D.asA a0) 1))).length : Int) ≤ (D.asI (at_ (D.asA a0) 2))))) then
            some (2, [(D.int (-1)), (D.int 3)])
          else
            if (decide (0 ≤ (D.asI (at_ (D.asA a0) 2)) ∧ (D.asI (at_ (D.asA a0) 2)) < (((D.asL (at_ o1.2 0))).length : Int))) then
            if (!(D.asB (at_ (D.asL (at_ o1.2 0)) (Int.toNat (D.asI (at_ (D.asA a0) 2)))))) then
              some (2, [(D.int (-1)), (D.int 25)])
            else
              some (2, [(D.int (-1)), (D.int 0)])
            else none
        else some o1
        else none
      else some o0 : Option Out) := by kernel_rfl
-- slices.Clone[[]errata/api.Value,errata/api.Value]
def h32 : List (Nat × List (Nat × Tm × Nat)) := []
def il32 : IL := (.ite (.bin .ieq (.un .len (.var 0)) (.int 0)) (.both (.out 2 [.lnil]) (.chk (.bin (.fits 34359738368) (.un .len .lnil) (.un .len (.var 0))) (.out 2 [(.bin .app .lnil (.var 0))]))) (.chk (.bin (.fits 34359738368) (.un .len .lnil) (.un .len (.var 0))) (.out 2 [(.bin .app .lnil (.var 0))])))
theorem d32 : decompF C ⟨[.slice 39], [.slice 39], [true]⟩ Tryd.f32 h32 = some il32 := by kernel_rfl
theorem e32 (R : Fns) (a0 : D) : den C.G R il32 [a0] =
    (if ((((D.asL a0)).length : Int) == (0 : Int)) then
      bothO (some (2, [(D.list [])]))
        (if (D.asB (U2.ev (.fits 34359738368) (D.int ((([] : List D)).length : Int)) (D.int (((D.asL a0)).length : Int)))) then
        some (2, [(D.list (([] : List D) ++ (D.asL a0)))])
        else none)
    else
      if (D.asB (U2.ev (.fits 34359738368) (D.int ((([] : List D)).length : Int)) (D.int (((D.asL a0)).length : Int)))) then
      some (2, [(D.list (([] : List D) ++ (D.asL a0)))])
      else none : Option Out) := by kernel_rfl
-- errata/errataref03.All
def h36 : List (Nat × List (Nat × Tm × Nat)) := [(5, [(0, ⟨[(0, (.dat (.slice 39) (.var 0))), (3, (.dat (.int .i64) (.var 1))), (2, (.dat (.bool) (.bool false)))], []⟩, 1), (3, ⟨[(2, (.dat (.bool) (.bool false)))], []⟩, 0)])]
def il36 : IL := (.bindc (.loop [(.int 0)] (.ite (.bin .ilt (.var 1) (.un .len (.var 0))) (.chk (.bin .inb (.un .len (.var 0)) (.var 1)) (.call [] 1 53 [(.bin .idx (.var 0) (.var 1))] (.ite (.un .not (.var 2)) (.out 2 [(.bool false)]) (.out 0 [(.bin (.add .i64) (.var 1) (.int 1))])))) (.out 327686 []))) 327686 0 (.out 2 [(.bool true)]))
theorem d36 : decompF C ⟨[.slice 39], [.bool], [false]⟩ Tryd.f36 h36 = some il36 := by kernel_rfl
theorem e36 (R : Fns) (a0 : D) : den C.G R il36 [a0] =
    ((loopL (fun s1 =>
        if (decide ((D.asI (at_ s1 0)) < (((D.asL a0)).length : Int))) then
          if (decide (0 ≤ (D.asI (at_ s1 0)) ∧ (D.asI (at_ s1 0)) < (((D.asL a0)).length : Int))) then
          (R 53 [(at_ (D.asL a0) (Int.toNat (D.asI (at_ s1 0))))]).bind fun r2 =>
          if (!(D.asB (at_ r2 0))) then
            some (2, [(D.bool false)])
          else
            some (0, [(D.int (IntKind.wrap .i64 ((D.asI (at_ s1 0)) + (1 : Int))))])
          else none
        else
          some (327686, [])) [(D.int 0)]).bind fun o0 =>
    if o0.1 = 327686 then
      some (2, [(D.bool true)])
    else some o0 : Option Out) := by kernel_rfl
-- errata/value.RightRow
def h42 : List (Nat × List (Nat × Tm × Nat)) := []
def il42 : IL := (.call [((.bin .ile (.un .len (.var 0)) (.int 12)), true)] 1 59 [(.var 0)] (.out 2 [(.bin .and (.bin .ile (.un .len (.var 0)) (.int 12)) (.var 1))]))
theorem d42 : decompF C ⟨[.slice 39], [.bool], [false]⟩ Tryd.f42 h42 = some il42 := by kernel_rfl
theorem e42 (R : Fns) (a0 : D) : den C.G R il42 [a0] =
    (callIf (((decide ((((D.asL a0)).length : Int) ≤ (12 : Int))) == true) && true) (R 59 [a0]) fun r0 =>
    some (2, [(D.bool ((decide ((((D.asL a0)).length : Int) ≤ (12 : Int))) && (D.asB (at_ r0 0))))]) : Option Out) := by kernel_rfl
-- (*errata/vm.machine).three
def h46 : List (Nat × List (Nat × Tm × Nat)) := []
def il46 : IL := (.chk (.un .isptr (.var 0)) (.chk (.bin .inb (.un .len (.un (.fld 1) (.un .deref (.var 0)))) (.un (.fld 2) (.var 1))) (.chk (.un .isptr (.var 0)) (.chk (.bin .inb (.un .len (.un (.fld 1) (.un .deref (.var 0)))) (.un (.fld 3) (.var 1))) (.chk (.un .isptr (.var 0)) (.chk (.bin .inb (.un .len (.un (.fld 1) (.un .deref (.var 0)))) (.un (.fld 4) (.var 1))) (.call [] 1 60 [(.var 0), (.fn 69 .lnil (.bin .cons (.un .mkptr (.bin .idx (.un (.fld 1) (.un .deref (.var 0))) (.un (.fld 2) (.var 1)))) (.bin .cons (.un .mkptr (.bin .idx (.un (.fld 1) (.un .deref (.var 0))) (.un (.fld 3) (.var 1)))) (.bin .cons (.un .mkptr (.bin .idx (.un (.fld 1) (.un .deref (.var 0))) (.un (.fld 4) (.var 1)))) .lnil))))] (.out 2 [(.var 2)]))))))))
theorem d46 : decompF C ⟨[.ptr 81, .struct 52], [.slice 39], [true]⟩ Tryd.f46 h46 = some il46 := by kernel_rfl
theorem e46 (R : Fns) (a0 a1 : D) : den C.G R il46 [a0, a1] =
    (if (D.isP a0) then
    if (decide (0 ≤ (D.asI (at_ (D.asA a1) 2)) ∧ (D.asI (at_ (D.asA a1) 2)) < (((D.asL (at_ (D.asA (D.asP a0)) 1))).length : Int))) then
    if (D.isP a0) then
    if (decide (0 ≤ (D.asI (at_ (D.asA a1) 3)) ∧ (D.asI (at_ (D.asA a1) 3)) < (((D.asL (at_ (D.asA (D.asP a0)) 1))).length : Int))) then
    if (D.isP a0) then
    if (decide (0 ≤ (D.asI (at_ (D.asA a1) 4)) ∧ (D.asI (at_ (D.asA a1) 4)) < (((D.asL (at_ (D.asA (D.asP a0)) 1))).length : Int))) then
    (R 60 [a0, (D.fn 69 ([] : List D) ((D.ptr (at_ (D.asL (at_ (D.asA (D.asP a0)) 1)) (Int.toNat (D.asI (at_ (D.asA a1) 2))))) :: ((D.ptr (at_ (D.asL (at_ (D.asA (D.asP a0)) 1)) (Int.toNat (D.asI (at_ (D.asA a1) 3))))) :: ((D.ptr (at_ (D.asL (at_ (D.asA (D.asP a0)) 1)) (Int.toNat (D.asI (at_ (D.asA a1) 4))))) :: ([] : List D)))))]).bind fun r0 =>
    some (2, [(at_ r0 0)])
    else none
    else none
    else none
    else none
    else none
    else none : Option Out) := by kernel_rfl
-- errata/errataref25.formed
def h48 : List (Nat × List (Nat × Tm × Nat)) := [(18, [(1, ⟨[(37, (.dat (.int .i64) (.un (.fld 0) (.var 0)))), (38, (.dat (.bool) (.var 3))), (1, (.bptr 8 [] 52)), (2, (.dat (.bool) (.bool false)))], [(8, (.box 52 (.dat (.struct 52) (.var 0))))]⟩, 1)])]
def il48 : IL := (.call [] 1 70 [(.un (.fld 0) (.var 0))] (.ite (.bin .seq (.var 1) (.str [])) (.out 2 [(.bool false)]) (.call [] 1 71 [(.un (.fld 0) (.var 0))] (.ite (.bin .or (.bin .or (.bin .and (.bin .ilt (.var 2) (.int 3)) (.un .not (.bin .ieq (.un (.fld 4) (.var 0)) (.int 0)))) (.bin .and (.bin .ilt (.var 2) (.int 2)) (.un .not (.bin .ieq (.un (.fld 3) (.var 0)) (.int 0))))) (.bin .and (.bin .ilt (.var 2) (.int 1)) (.un .not (.bin .ieq (.un (.fld 2) (.var 0)) (.int 0))))) (.out 2 [(.bool false)]) (.bindc (.ite (.bin .ieq (.un (.fld 0) (.var 0)) (.int 0)) (.out 1179652 [(.bin .ieq (.un (.fld 0) (.var 0)) (.int 0))]) (.out 1179652 [(.bin .ieq (.un (.fld 0) (.var 0)) (.int 3))])) 1179652 1 (.ite (.var 3) (.out 2 [(.bin .seq (.un (.fld 6) (.var 0)) (.str []))]) (.ite (.bin .ieq (.un (.fld 0) (.var 0)) (.int 2)) (.out 2 [(.bin .and (.bin .seq (.un (.fld 6) (.var 0)) (.str [])) (.bin .or (.bin .ieq (.un (.fld 5) (.var 0)) (.int 0)) (.bin .ieq (.un (.fld 5) (.var 0)) (.int 1))))]) (.ite (.bin .ieq (.un (.fld 0) (.var 0)) (.int 1)) (.out 2 [(.bin .and (.bin .ieq (.un (.fld 5) (.var 0)) (.int 0)) (.bin .ile (.un .slen (.un (.fld 6) (.var 0))) (.int 200)))]) (.out 2 [(.bin .and (.bin .ieq (.un (.fld 5) (.var 0)) (.int 0)) (.bin .seq (.un (.fld 6) (.var 0)) (.str [])))])))))))))
theorem d48 : decompF C ⟨[.struct 52], [.bool], [false]⟩ Tryd.f48 h48 = some il48 := by kernel_rfl
theorem e48 (R : Fns) (a0 : D) : den C.G R il48 [a0] =
    ((R 70 [(at_ (D.asA a0) 0)]).bind fun r0 =>
    if ((D.asS (at_ r0 0)) == []) then
      some (2, [(D.bool false)])
    else
      (R 71 [(at_ (D.asA a0) 0)]).bind fun r1 =>
      if ((((decide ((D.asI (at_ r1 0)) < (3 : Int))) && (!((D.asI (at_ (D.asA a0) 4)) == (0 : Int)))) || ((decide ((D.asI (at_ r1 0)) < (2 : Int))) && (!((D.asI (at_ (D.asA a0) 3)) == (0 : Int))))) || ((decide ((D.asI (at_ r1 0)) < (1 : Int))) && (!((D.asI (at_ (D.asA a0) 2)) == (0 : Int))))) then
        some (2, [(D.bool false)])
      else
        (if ((D.asI (at_ (D.asA a0) 0)) == (0 : Int)) then
            some (1179652, [(D.bool ((D.asI (at_ (D.asA a0) 0)) == (0 : Int)))])
          else
            some (1179652, [(D.bool ((D.asI (at_ (D.asA a0) 0)) == (3 : Int)))])).bind fun o2 =>
        if o2.1 = 1179652 then
          if (D.asB (at_ o2.2 0)) then
            some (2, [(D.bool ((D.asS (at_ (D.asA a0) 6)) == []))])
          else
            if ((D.asI (at_ (D.asA a0) 0)) == (2 : Int)) then
              some (2, [(D.bool (((D.asS (at_ (D.asA a0) 6)) == []) && (((D.asI (at_ (D.asA a0) 5)) == (0 : Int)) || ((D.asI (at_ (D.asA a0) 5)) == (1 : Int)))))])
            else
              if ((D.asI (at_ (D.asA a0) 0)) == (1 : Int)) then
                some (2, [(D.bool (((D.asI (at_ (D.asA a0) 5)) == (0 : Int)) && (decide ((((D.asS (at_ (D.asA a0) 6))).length : Int) ≤ (200 : Int)))))])
              else
                some (2, [(D.bool (((D.asI (at_ (D.asA a0) 5)) == (0 : Int)) && ((D.asS (at_ (D.asA a0) 6)) == [])))])
        else some o2 : Option Out) := by kernel_rfl
-- errata/code.isOp
def h54 : List (Nat × List (Nat × Tm × Nat)) := []
def il54 : IL := (.chk (.tri .ite (.bin .and (.bin .ile (.int 0) (.var 0)) (.bin .ilt (.var 0) (.int 23))) (.bin .inb (.int 23) (.var 0)) (.bool true)) (.out 2 [(.bin .and (.bin .and (.bin .ile (.int 0) (.var 0)) (.bin .ilt (.var 0) (.int 23))) (.un .not (.bin .seq (.bin .aidx (.un .deref (.glob 0)) (.var 0)) (.str []))))]))
theorem d54 : decompF C ⟨[.int .i64], [.bool], [false]⟩ Tryd.f54 h54 = some il54 := by kernel_rfl
theorem e54 (R : Fns) (a0 : D) : den C.G R il54 [a0] =
    (if (D.asB (if ((decide ((0 : Int) ≤ (D.asI a0))) && (decide ((D.asI a0) < (23 : Int)))) then (D.bool (decide (0 ≤ (D.asI a0) ∧ (D.asI a0) < (23 : Int)))) else (D.bool true))) then
    some (2, [(D.bool (((decide ((0 : Int) ≤ (D.asI a0))) && (decide ((D.asI a0) < (23 : Int)))) && (!((D.asS (at_ (D.asA (C.G 0)) (Int.toNat (D.asI a0)))) == []))))])
    else none : Option Out) := by kernel_rfl
-- (*errata/vm.machine).column
def h60 : List (Nat × List (Nat × Tm × Nat)) := [(7, [(0, ⟨[(1, (.dat (.func 98) (.var 1))), (17, (.dat (.int .i64) (.un .len (.un (.fld 0) (.un .deref (.var 0)))))), (18, (.dat (.int .i64) (.var 2))), (5, (.sli 96 0 39)), (4, (.nils 39))], [(96, (.arr 39 (.var 3) 0))]⟩, 2), (3, ⟨[(5, (.sli 96 0 39)), (4, (.nils 39))], [(96, (.arr 39 (.var 2) 0))]⟩, 1)])]
def il60 : IL := (.chk (.un .isptr (.var 0)) (.chk (.bin (.ble 34359738368) (.un .len (.un (.fld 0) (.un .deref (.var 0)))) (.un .len (.un (.fld 0) (.un .deref (.var 0))))) (.chk (.un .isptr (.var 0)) (.bindc (.loop [(.int 0), (.bin .rep (.un .len (.un (.fld 0) (.un .deref (.var 0)))) (.un .mkagg (.bin .cons (.int 0) (.bin .cons (.int 0) (.bin .cons (.str []) .lnil)))))] (.ite (.bin .ilt (.var 2) (.un .len (.un (.fld 0) (.un .deref (.var 0))))) (.callv [] 1 (.var 1) [(.var 2)] (.chk (.bin .inb (.un .len (.var 3)) (.var 2)) (.out 0 [(.bin (.add .i64) (.var 2) (.int 1)), (.tri .set (.var 3) (.var 2) (.var 4))]))) (.out 458758 [(.var 3)]))) 458758 1 (.out 2 [(.var 2)])))))
theorem d60 : decompF C ⟨[.ptr 81, .func 98], [.slice 39], [true]⟩ Tryd.f60 h60 = some il60 := by kernel_rfl
theorem e60 (R : Fns) (a0 a1 : D) : den C.G R il60 [a0, a1] =
    (if (D.isP a0) then
    if (D.asB (U2.ev (.ble 34359738368) (D.int (((D.asL (at_ (D.asA (D.asP a0)) 0))).length : Int)) (D.int (((D.asL (at_ (D.asA (D.asP a0)) 0))).length : Int)))) then
    if (D.isP a0) then
    (loopL (fun s1 =>
        if (decide ((D.asI (at_ s1 0)) < (((D.asL (at_ (D.asA (D.asP a0)) 0))).length : Int))) then
          (callD R a1 [(at_ s1 0)]).bind fun r2 =>
          if (decide (0 ≤ (D.asI (at_ s1 0)) ∧ (D.asI (at_ s1 0)) < (((D.asL (at_ s1 1))).length : Int))) then
          some (0, [(D.int (IntKind.wrap .i64 ((D.asI (at_ s1 0)) + (1 : Int)))), (D.list (((D.asL (at_ s1 1))).set (Int.toNat (D.asI (at_ s1 0))) (at_ r2 0)))])
          else none
        else
          some (458758, [(at_ s1 1)])) [(D.int 0), (D.list (List.replicate (Int.toNat (((D.asL (at_ (D.asA (D.asP a0)) 0))).length : Int)) (D.agg ((D.int 0) :: ((D.int 0) :: ((D.str []) :: ([] : List D)))))))]).bind fun o0 =>
    if o0.1 = 458758 then
      some (2, [(at_ o0.2 0)])
    else some o0
    else none
    else none
    else none : Option Out) := by kernel_rfl
-- errata/value.Right
def h81 : List (Nat × List (Nat × Tm × Nat)) := []
def il81 : IL := (.ite (.bin .ieq (.un (.fld 0) (.var 0)) (.int 0)) (.call [] 1 62 [(.un (.fld 1) (.var 0))] (.out 2 [(.bin .deq (.var 0) (.var 1))])) (.ite (.bin .ieq (.un (.fld 0) (.var 0)) (.int 1)) (.call [] 1 64 [(.un (.fld 2) (.var 0))] (.out 2 [(.bin .and (.bin .deq (.var 0) (.var 1)) (.bin .ile (.un .slen (.un (.fld 2) (.var 0))) (.int 200)))])) (.call [] 1 63 [(.bool false)] (.call [((.bin .deq (.var 0) (.var 1)), false)] 1 63 [(.bool true)] (.out 2 [(.bin .or (.bin .deq (.var 0) (.var 1)) (.bin .deq (.var 0) (.var 2)))])))))
theorem d81 : decompF C ⟨[.struct 39], [.bool], [false]⟩ Tryd.f81 h81 = some il81 := by kernel_rfl
theorem e81 (R : Fns) (a0 : D) : den C.G R il81 [a0] =
    (if ((D.asI (at_ (D.asA a0) 0)) == (0 : Int)) then
      (R 62 [(at_ (D.asA a0) 1)]).bind fun r0 =>
      some (2, [(D.bool (D.beq a0 (at_ r0 0)))])
    else
      if ((D.asI (at_ (D.asA a0) 0)) == (1 : Int)) then
        (R 64 [(at_ (D.asA a0) 2)]).bind fun r0 =>
        some (2, [(D.bool ((D.beq a0 (at_ r0 0)) && (decide ((((D.asS (at_ (D.asA a0) 2))).length : Int) ≤ (200 : Int)))))])
      else
        (R 63 [(D.bool false)]).bind fun r0 =>
        callIf (((D.beq a0 (at_ r0 0)) == false) && true) (R 63 [(D.bool true)]) fun r1 =>
        some (2, [(D.bool ((D.beq a0 (at_ r0 0)) || (D.beq a0 (at_ r1 0))))]) : Option Out) := by kernel_rfl
-- strings.Compare
def h84 : List (Nat × List (Nat × Tm × Nat)) := []
def il84 : IL := (.call [] 1 94 [(.var 0), (.var 1)] (.out 2 [(.var 2)]))
theorem d84 : decompF C ⟨[.str, .str], [.int .i64], [false]⟩ Tryd.f84 h84 = some il84 := by kernel_rfl
theorem e84 (R : Fns) (a0 a1 : D) : den C.G R il84 [a0, a1] =
    ((R 94 [a0, a1]).bind fun r0 =>
    some (2, [(at_ r0 0)]) : Option Out) := by kernel_rfl
-- errata/errataref16.kind
def h95 : List (Nat × List (Nat × Tm × Nat)) := []
def il95 : IL := (.out 2 [(.bin .and (.bin .ile (.int 0) (.var 0)) (.bin .ilt (.var 0) (.int 3)))])
theorem d95 : decompF C ⟨[.int .i64], [.bool], [false]⟩ Tryd.f95 h95 = some il95 := by kernel_rfl
theorem e95 (R : Fns) (a0 : D) : den C.G R il95 [a0] =
    (some (2, [(D.bool ((decide ((0 : Int) ≤ (D.asI a0))) && (decide ((D.asI a0) < (3 : Int)))))]) : Option Out) := by kernel_rfl
-- errata/expr.operation$1
def h100 : List (Nat × List (Nat × Tm × Nat)) := []
def il100 : IL := (.chk (.un .isptr (.var 2)) (.call [((.bin .ieq (.un .len (.un .deref (.var 2))) (.var 1)), true)] 1 24 [(.un .deref (.var 2)), (.fn 101 .lnil (.bin .cons (.un .mkptr (.var 0)) .lnil))] (.out 2 [(.bin .and (.bin .ieq (.un .len (.un .deref (.var 2))) (.var 1)) (.un .not (.var 3)))])))
theorem d100 : decompF C ⟨[.int .i64, .int .i64, .ptr 23], [.bool], [false]⟩ Tryd.f100 h100 = some il100 := by kernel_rfl
theorem e100 (R : Fns) (a0 a1 a2 : D) : den C.G R il100 [a0, a1, a2] =
    (if (D.isP a2) then
    callIf ((((((D.asL (D.asP a2))).length : Int) == (D.asI a1)) == true) && true) (R 24 [(D.asP a2), (D.fn 101 ([] : List D) ((D.ptr a0) :: ([] : List D)))]) fun r0 =>
    some (2, [(D.bool (((((D.asL (D.asP a2))).length : Int) == (D.asI a1)) && (!(D.asB (at_ r0 0)))))])
    else none : Option Out) := by kernel_rfl
end Go.Proofs.YtlbckmllpciglaaDoor
