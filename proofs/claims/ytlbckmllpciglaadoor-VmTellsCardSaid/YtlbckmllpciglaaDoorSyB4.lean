/- Some functions' texts, and what they mean. Printed by a program of this claim's author. -/
import Derived.Test.YtlbckmllpciglaaDoorSyA
set_option linter.unusedVariables false
set_option linter.unusedSimpArgs false
set_option linter.all false
namespace Go.Proofs.YtlbckmllpciglaaDoor
open Go Sy
set_option maxRecDepth 100000
-- errata/erratalaw27.VmBatches
def h3 : List (Nat × List (Nat × Tm × Nat)) := [(27, [(0, ⟨[(20, (.dat (.int .i64) (.var 17))), (19, (.sli 920 0 39)), (14, (.sli 560 0 39)), (16, (.sli 648 0 39)), (9, (.dat (.bool) (.var 4))), (2, (.dat (.slice 37) (.var 2))), (12, (.sli 504 0 39)), (17, (.dat (.int .i64) (.var 16))), (15, (.dat (.int .i64) (.var 14))), (13, (.dat (.int .i64) (.var 12))), (18, (.sli 864 0 37)), (1, (.dat (.slice 3) (.var 1))), (4, (.bptr 32 [] 25)), (8, (.dat (.bool) (.bool false)))], [(920, (.arr 39 (.var 18) 0)), (560, (.arr 39 (.var 13) 0)), (648, (.arr 39 (.var 15) 0)), (504, (.arr 39 (.var 11) 0)), (864, (.arr 37 (.var 19) 0)), (32, (.box 25 (.dat (.struct 25) (.var 0))))]⟩, 3), (3, ⟨[(19, (.sli 920 0 39)), (14, (.sli 560 0 39)), (16, (.sli 648 0 39)), (9, (.dat (.bool) (.var 4))), (2, (.dat (.slice 37) (.var 2))), (12, (.sli 504 0 39)), (17, (.dat (.int .i64) (.var 16))), (15, (.dat (.int .i64) (.var 14))), (13, (.dat (.int .i64) (.var 12))), (18, (.sli 864 0 37)), (1, (.dat (.slice 3) (.var 1))), (4, (.bptr 32 [] 25)), (8, (.dat (.bool) (.bool false)))], [(920, (.arr 39 (.var 17) 0)), (560, (.arr 39 (.var 13) 0)), (648, (.arr 39 (.var 15) 0)), (504, (.arr 39 (.var 11) 0)), (864, (.arr 37 (.var 18) 0)), (32, (.box 25 (.dat (.struct 25) (.var 0))))]⟩, 2)])]
def il3 : IL := (.call [] 1 6 [] (.call [] 1 7 [(.var 0), (.var 1), (.var 2)] (.call [((.un .not (.var 5)), false)] 1 7 [(.var 0), (.var 1), (.var 3)] (.call [((.bin .or (.un .not (.var 5)) (.un .not (.var 6))), false)] 1 8 [(.var 1), (.var 2)] (.call [((.bin .or (.bin .or (.un .not (.var 5)) (.un .not (.var 6))) (.un .not (.var 7))), false)] 1 8 [(.var 1), (.var 3)] (.ite (.bin .or (.bin .or (.bin .or (.un .not (.var 5)) (.un .not (.var 6))) (.un .not (.var 7))) (.un .not (.var 8))) (.out 2 [(.var 4)]) (.call [] 2 9 [(.var 0), (.var 1)] (.ite (.un .not (.bin .ieq (.var 10) (.int 0))) (.out 2 [(.var 4)]) (.call [] 2 10 [(.var 0), (.var 1), (.var 2)] (.call [] 2 10 [(.var 0), (.var 1), (.var 3)] (.chk (.bin (.fits 34359738368) (.un .len .lnil) (.un .len (.var 2))) (.chk (.bin (.fits 34359738368) (.un .len (.bin .app .lnil (.var 2))) (.un .len (.var 3))) (.call [] 2 10 [(.var 0), (.var 1), (.bin .app (.bin .app .lnil (.var 2)) (.var 3))] (.bindc (.loop [(.bin (.sub .i64) (.un .len (.var 2)) (.int 1)), .lnil, .lnil] (.ite (.bin .and (.bin .ile (.int 0) (.var 17)) (.bin .ilt (.var 17) (.un .len (.var 11)))) (.chk (.bin .inb (.un .len (.var 2)) (.var 17)) (.chk (.bin (.fits 34359738368) (.un .len (.var 19)) (.un .len (.bin .cons (.un .mkagg (.bin .cons (.un (.fld 0) (.bin .idx (.var 2) (.var 17))) (.bin .cons (.un (.fld 1) (.bin .idx (.var 2) (.var 17))) (.bin .cons (.bin (.add .i64) (.un (.fld 2) (.bin .idx (.var 2) (.var 17))) (.int 7)) .lnil)))) .lnil))) (.chk (.bin .inb (.un .len (.var 11)) (.var 17)) (.chk (.bin (.fits 34359738368) (.un .len (.var 18)) (.un .len (.bin .cons (.bin .idx (.var 11) (.var 17)) .lnil))) (.out 0 [(.bin (.sub .i64) (.var 17) (.int 1)), (.bin .snoc (.var 18) (.bin .idx (.var 11) (.var 17))), (.bin .snoc (.var 19) (.un .mkagg (.bin .cons (.un (.fld 0) (.bin .idx (.var 2) (.var 17))) (.bin .cons (.un (.fld 1) (.bin .idx (.var 2) (.var 17))) (.bin .cons (.bin (.add .i64) (.un (.fld 2) (.bin .idx (.var 2) (.var 17))) (.int 7)) .lnil)))))]))))) (.out 1769478 [(.var 18), (.var 19)]))) 1769478 2 (.call [] 2 10 [(.var 0), (.var 1), (.var 18)] (.ite (.bin .or (.bin .or (.bin .or (.bin .or (.un .not (.bin .ieq (.var 12) (.int 0))) (.un .not (.bin .ieq (.var 14) (.int 0)))) (.un .not (.bin .ieq (.var 16) (.int 0)))) (.un .not (.bin .ieq (.var 20) (.int 0)))) (.un .not (.bin .ieq (.un .len (.var 11)) (.un .len (.var 2))))) (.out 2 [(.bool false)]) (.chk (.tri .ite (.var 4) (.bin (.fits 34359738368) (.un .len .lnil) (.un .len (.var 11))) (.bool true)) (.chk (.tri .ite (.var 4) (.bin (.fits 34359738368) (.un .len (.bin .app .lnil (.var 11))) (.un .len (.var 13))) (.bool true)) (.call [((.var 4), true)] 1 11 [(.var 15), (.bin .app (.bin .app .lnil (.var 11)) (.var 13))] (.call [((.bin .and (.var 4) (.var 21)), true)] 1 11 [(.var 19), (.var 17)] (.out 2 [(.bin .and (.bin .and (.var 4) (.var 21)) (.var 22))])))))))))))))))))))))
theorem d3 : decompF C ⟨[.struct 25, .slice 3, .slice 37, .slice 37], [.bool], [false]⟩ Tryd.f3 h3 = some il3 := by kernel_rfl
theorem e3 (R : Fns) (a0 a1 a2 a3 : D) : den C.G R il3 [a0, a1, a2, a3] =
    ((R 6 []).bind fun r0 =>
    (R 7 [a0, a1, a2]).bind fun r1 =>
    callIf (((!(D.asB (at_ r1 0))) == false) && true) (R 7 [a0, a1, a3]) fun r2 =>
    callIf ((((!(D.asB (at_ r1 0))) || (!(D.asB (at_ r2 0)))) == false) && true) (R 8 [a1, a2]) fun r3 =>
    callIf (((((!(D.asB (at_ r1 0))) || (!(D.asB (at_ r2 0)))) || (!(D.asB (at_ r3 0)))) == false) && true) (R 8 [a1, a3]) fun r4 =>
    if ((((!(D.asB (at_ r1 0))) || (!(D.asB (at_ r2 0)))) || (!(D.asB (at_ r3 0)))) || (!(D.asB (at_ r4 0)))) then
      some (2, [(at_ r0 0)])
    else
      (R 9 [a0, a1]).bind fun r5 =>
      if (!((D.asI (at_ r5 1)) == (0 : Int))) then
        some (2, [(at_ r0 0)])
      else
        (R 10 [a0, a1, a2]).bind fun r6 =>
        (R 10 [a0, a1, a3]).bind fun r7 =>
        if (D.asB (U2.ev (.fits 34359738368) (D.int ((([] : List D)).length : Int)) (D.int (((D.asL a2)).length : Int)))) then
        if (D.asB (U2.ev (.fits 34359738368) (D.int (((([] : List D) ++ (D.asL a2))).length : Int)) (D.int (((D.asL a3)).length : Int)))) then
        (R 10 [a0, a1, (D.list ((([] : List D) ++ (D.asL a2)) ++ (D.asL a3)))]).bind fun r8 =>
        (loopL (fun s10 =>
            if ((decide ((0 : Int) ≤ (D.asI (at_ s10 0)))) && (decide ((D.asI (at_ s10 0)) < (((D.asL (at_ r6 0))).length : Int)))) then
              if (decide (0 ≤ (D.asI (at_ s10 0)) ∧ (D.asI (at_ s10 0)) < (((D.asL a2)).length : Int))) then
              if (D.asB (U2.ev (.fits 34359738368) (D.int (((D.asL (at_ s10 2))).length : Int)) (D.int ((((D.agg ((at_ (D.asA (at_ (D.asL a2) (Int.toNat (D.asI (at_ s10 0))))) 0) :: ((at_ (D.asA (at_ (D.asL a2) (Int.toNat (D.asI (at_ s10 0))))) 1) :: ((D.int (IntKind.wrap .i64 ((D.asI (at_ (D.asA (at_ (D.asL a2) (Int.toNat (D.asI (at_ s10 0))))) 2)) + (7 : Int)))) :: ([] : List D))))) :: ([] : List D))).length : Int)))) then
              if (decide (0 ≤ (D.asI (at_ s10 0)) ∧ (D.asI (at_ s10 0)) < (((D.asL (at_ r6 0))).length : Int))) then
              if (D.asB (U2.ev (.fits 34359738368) (D.int (((D.asL (at_ s10 1))).length : Int)) (D.int ((((at_ (D.asL (at_ r6 0)) (Int.toNat (D.asI (at_ s10 0)))) :: ([] : List D))).length : Int)))) then
              some (0, [(D.int (IntKind.wrap .i64 ((D.asI (at_ s10 0)) - (1 : Int)))), (D.list ((D.asL (at_ s10 1)) ++ [(at_ (D.asL (at_ r6 0)) (Int.toNat (D.asI (at_ s10 0))))])), (D.list ((D.asL (at_ s10 2)) ++ [(D.agg ((at_ (D.asA (at_ (D.asL a2) (Int.toNat (D.asI (at_ s10 0))))) 0) :: ((at_ (D.asA (at_ (D.asL a2) (Int.toNat (D.asI (at_ s10 0))))) 1) :: ((D.int (IntKind.wrap .i64 ((D.asI (at_ (D.asA (at_ (D.asL a2) (Int.toNat (D.asI (at_ s10 0))))) 2)) + (7 : Int)))) :: ([] : List D)))))]))])
              else none
              else none
              else none
              else none
            else
              some (1769478, [(at_ s10 1), (at_ s10 2)])) [(D.int (IntKind.wrap .i64 ((((D.asL a2)).length : Int) - (1 : Int)))), (D.list []), (D.list [])]).bind fun o9 =>
        if o9.1 = 1769478 then
          (R 10 [a0, a1, (at_ o9.2 1)]).bind fun r10 =>
          if (((((!((D.asI (at_ r6 1)) == (0 : Int))) || (!((D.asI (at_ r7 1)) == (0 : Int)))) || (!((D.asI (at_ r8 1)) == (0 : Int)))) || (!((D.asI (at_ r10 1)) == (0 : Int)))) || (!((((D.asL (at_ r6 0))).length : Int) == (((D.asL a2)).length : Int)))) then
            some (2, [(D.bool false)])
          else
            if (D.asB (if (D.asB (at_ r0 0)) then (D.bool (D.asB (U2.ev (.fits 34359738368) (D.int ((([] : List D)).length : Int)) (D.int (((D.asL (at_ r6 0))).length : Int))))) else (D.bool true))) then
            if (D.asB (if (D.asB (at_ r0 0)) then (D.bool (D.asB (U2.ev (.fits 34359738368) (D.int (((([] : List D) ++ (D.asL (at_ r6 0)))).length : Int)) (D.int (((D.asL (at_ r7 0))).length : Int))))) else (D.bool true))) then
            callIf (((D.asB (at_ r0 0)) == true) && true) (R 11 [(at_ r8 0), (D.list ((([] : List D) ++ (D.asL (at_ r6 0))) ++ (D.asL (at_ r7 0))))]) fun r11 =>
            callIf ((((D.asB (at_ r0 0)) && (D.asB (at_ r11 0))) == true) && true) (R 11 [(at_ r10 0), (at_ o9.2 0)]) fun r12 =>
            some (2, [(D.bool (((D.asB (at_ r0 0)) && (D.asB (at_ r11 0))) && (D.asB (at_ r12 0))))])
            else none
            else none
        else some o9
        else none
        else none : Option Out) := by kernel_rfl
-- errata/erratalaw27.VmTells
def h4 : List (Nat × List (Nat × Tm × Nat)) := []
def il4 : IL := (.call [] 1 6 [] (.call [] 1 7 [(.var 0), (.var 2), (.var 3)] (.call [((.un .not (.var 6)), false)] 1 7 [(.var 1), (.var 2), (.var 3)] (.ite (.bin .or (.un .not (.var 6)) (.un .not (.var 7))) (.out 2 [(.var 5)]) (.call [] 2 10 [(.var 0), (.var 2), (.var 3)] (.call [] 2 12 [(.var 0), (.var 2), (.var 3)] (.call [] 2 13 [(.var 0), (.var 2), (.var 3)] (.call [] 2 14 [(.var 0), (.var 2), (.var 3)] (.call [((.bin .or (.un .not (.bin .ieq (.var 9) (.var 11))) (.un .not (.bin .ieq (.var 13) (.var 15)))), false)] 1 11 [(.var 8), (.var 10)] (.call [((.bin .or (.bin .or (.un .not (.bin .ieq (.var 9) (.var 11))) (.un .not (.bin .ieq (.var 13) (.var 15)))) (.un .not (.var 16))), false)] 1 15 [(.var 12), (.var 14)] (.ite (.bin .or (.bin .or (.bin .or (.un .not (.bin .ieq (.var 9) (.var 11))) (.un .not (.bin .ieq (.var 13) (.var 15)))) (.un .not (.var 16))) (.un .not (.var 17))) (.out 2 [(.bool false)]) (.call [] 2 16 [(.bin .cons (.var 0) (.bin .cons (.var 1) .lnil)), (.var 2), (.var 3)] (.call [] 2 17 [(.bin .cons (.var 0) (.bin .cons (.var 1) .lnil)), (.var 2), (.var 3)] (.call [((.un .not (.bin .ieq (.var 19) (.var 21))), false)] 1 15 [(.var 18), (.var 20)] (.ite (.bin .or (.un .not (.bin .ieq (.var 19) (.var 21))) (.un .not (.var 22))) (.out 2 [(.bool false)]) (.call [] 1 18 [(.var 0), (.var 4)] (.ite (.bin .or (.bin .ile (.var 4) (.int 0)) (.bin .ieq (.un .len (.un (.fld 0) (.var 0))) (.int 0))) (.out 2 [(.bin .and (.var 5) (.bin .ieq (.var 23) (.int 0)))]) (.chk (.un .not (.bin .ieq (.un .len (.un (.fld 0) (.var 0))) (.int 0))) (.ite (.bin .ilt (.bin (.quo .i64) (.int 1099511627776) (.un .len (.un (.fld 0) (.var 0)))) (.var 4)) (.out 2 [(.bin .and (.var 5) (.bin .ieq (.var 23) (.int 1099511627776)))]) (.out 2 [(.bin .and (.var 5) (.bin .ieq (.var 23) (.bin (.mul .i64) (.var 4) (.un .len (.un (.fld 0) (.var 0))))))]))))))))))))))))))))
theorem d4 : decompF C ⟨[.struct 25, .struct 25, .slice 3, .slice 37, .int .i64], [.bool], [false]⟩ Tryd.f4 h4 = some il4 := by kernel_rfl
theorem e4 (R : Fns) (a0 a1 a2 a3 a4 : D) : den C.G R il4 [a0, a1, a2, a3, a4] =
    ((R 6 []).bind fun r0 =>
    (R 7 [a0, a2, a3]).bind fun r1 =>
    callIf (((!(D.asB (at_ r1 0))) == false) && true) (R 7 [a1, a2, a3]) fun r2 =>
    if ((!(D.asB (at_ r1 0))) || (!(D.asB (at_ r2 0)))) then
      some (2, [(at_ r0 0)])
    else
      (R 10 [a0, a2, a3]).bind fun r3 =>
      (R 12 [a0, a2, a3]).bind fun r4 =>
      (R 13 [a0, a2, a3]).bind fun r5 =>
      (R 14 [a0, a2, a3]).bind fun r6 =>
      callIf ((((!((D.asI (at_ r3 1)) == (D.asI (at_ r4 1)))) || (!((D.asI (at_ r5 1)) == (D.asI (at_ r6 1))))) == false) && true) (R 11 [(at_ r3 0), (at_ r4 0)]) fun r7 =>
      callIf (((((!((D.asI (at_ r3 1)) == (D.asI (at_ r4 1)))) || (!((D.asI (at_ r5 1)) == (D.asI (at_ r6 1))))) || (!(D.asB (at_ r7 0)))) == false) && true) (R 15 [(at_ r5 0), (at_ r6 0)]) fun r8 =>
      if ((((!((D.asI (at_ r3 1)) == (D.asI (at_ r4 1)))) || (!((D.asI (at_ r5 1)) == (D.asI (at_ r6 1))))) || (!(D.asB (at_ r7 0)))) || (!(D.asB (at_ r8 0)))) then
        some (2, [(D.bool false)])
      else
        (R 16 [(D.list (a0 :: (a1 :: ([] : List D)))), a2, a3]).bind fun r9 =>
        (R 17 [(D.list (a0 :: (a1 :: ([] : List D)))), a2, a3]).bind fun r10 =>
        callIf (((!((D.asI (at_ r9 1)) == (D.asI (at_ r10 1)))) == false) && true) (R 15 [(at_ r9 0), (at_ r10 0)]) fun r11 =>
        if ((!((D.asI (at_ r9 1)) == (D.asI (at_ r10 1)))) || (!(D.asB (at_ r11 0)))) then
          some (2, [(D.bool false)])
        else
          (R 18 [a0, a4]).bind fun r12 =>
          if ((decide ((D.asI a4) ≤ (0 : Int))) || ((((D.asL (at_ (D.asA a0) 0))).length : Int) == (0 : Int))) then
            some (2, [(D.bool ((D.asB (at_ r0 0)) && ((D.asI (at_ r12 0)) == (0 : Int))))])
          else
            if (!((((D.asL (at_ (D.asA a0) 0))).length : Int) == (0 : Int))) then
            if (decide ((IntKind.wrap .i64 (Int.tdiv (1099511627776 : Int) (((D.asL (at_ (D.asA a0) 0))).length : Int))) < (D.asI a4))) then
              some (2, [(D.bool ((D.asB (at_ r0 0)) && ((D.asI (at_ r12 0)) == (1099511627776 : Int))))])
            else
              some (2, [(D.bool ((D.asB (at_ r0 0)) && ((D.asI (at_ r12 0)) == (IntKind.wrap .i64 ((D.asI a4) * (((D.asL (at_ (D.asA a0) 0))).length : Int))))))])
            else none : Option Out) := by kernel_rfl
-- errata/code.Verify
def h9 : List (Nat × List (Nat × Tm × Nat)) := [(15, [(0, ⟨[(1, (.dat (.slice 3) (.var 1))), (28, (.dat (.slice 52) (.un (.fld 0) (.var 0)))), (29, (.dat (.int .i64) (.un .len (.un (.fld 0) (.var 0))))), (30, (.dat (.int .i64) (.var 3))), (6, (.sli 208 0 4)), (2, (.bptr 16 [] 25)), (5, (.dat (.int .i64) (.int 0))), (4, (.dat (.int .i64) (.int 0)))], [(208, (.arr 4 (.var 4) 0)), (16, (.box 25 (.dat (.struct 25) (.var 0))))]⟩, 2), (3, ⟨[(6, (.sli 208 0 4)), (2, (.bptr 16 [] 25)), (5, (.dat (.int .i64) (.int 0))), (4, (.dat (.int .i64) (.int 0)))], [(208, (.arr 4 (.var 3) 0)), (16, (.box 25 (.dat (.struct 25) (.var 0))))]⟩, 1)])]
def il9 : IL := (.ite (.bin .or (.bin .ilt (.int 1000) (.un .len (.un (.fld 0) (.var 0)))) (.bin .ilt (.int 1000) (.un .len (.un (.fld 1) (.var 0))))) (.out 2 [(.int (-1)), (.int 6)]) (.call [] 1 24 [(.un (.fld 1) (.var 0)), (.fn 25 .lnil .lnil)] (.ite (.var 2) (.out 2 [(.int (-1)), (.int 13)]) (.chk (.bin (.ble 34359738368) (.un .len (.un (.fld 1) (.var 0))) (.un .len (.un (.fld 1) (.var 0)))) (.bindc (.loop [(.int 0), (.bin .rep (.un .len (.un (.fld 1) (.var 0))) (.bool false))] (.ite (.bin .ilt (.var 3) (.un .len (.un (.fld 0) (.var 0)))) (.chk (.bin .inb (.un .len (.un (.fld 0) (.var 0))) (.var 3)) (.call [] 1 26 [(.bin .idx (.un (.fld 0) (.var 0)) (.var 3)), (.var 1), (.un (.fld 1) (.var 0)), (.var 4)] (.ite (.un .not (.bin .ieq (.var 5) (.int 0))) (.out 2 [(.var 3), (.var 5)]) (.chk (.bin .inb (.un .len (.var 4)) (.un (.fld 1) (.bin .idx (.un (.fld 0) (.var 0)) (.var 3)))) (.out 0 [(.bin (.add .i64) (.var 3) (.int 1)), (.tri .set (.var 4) (.un (.fld 1) (.bin .idx (.un (.fld 0) (.var 0)) (.var 3))) (.bool true))]))))) (.out 983046 [(.var 4)]))) 983046 1 (.ite (.bin .or (.bin .ilt (.un (.fld 2) (.var 0)) (.int 0)) (.bin .ile (.un .len (.un (.fld 1) (.var 0))) (.un (.fld 2) (.var 0)))) (.out 2 [(.int (-1)), (.int 3)]) (.chk (.bin .inb (.un .len (.var 3)) (.un (.fld 2) (.var 0))) (.ite (.un .not (.bin .idx (.var 3) (.un (.fld 2) (.var 0)))) (.out 2 [(.int (-1)), (.int 25)]) (.out 2 [(.int (-1)), (.int 0)])))))))))
theorem d9 : decompF C ⟨[.struct 25, .slice 3], [.int .i64, .int .i64], [false, false]⟩ Tryd.f9 h9 = some il9 := by kernel_rfl
theorem e9 (R : Fns) (a0 a1 : D) : den C.G R il9 [a0, a1] =
    (if ((decide ((1000 : Int) < (((D.asL (at_ (D.asA a0) 0))).length : Int))) || (decide ((1000 : Int) < (((D.asL (at_ (D.asA a0) 1))).length : Int)))) then
      some (2, [(D.int (-1)), (D.int 6)])
    else
      (R 24 [(at_ (D.asA a0) 1), (D.fn 25 ([] : List D) ([] : List D))]).bind fun r0 =>
      if (D.asB (at_ r0 0)) then
        some (2, [(D.int (-1)), (D.int 13)])
      else
        if (D.asB (U2.ev (.ble 34359738368) (D.int (((D.asL (at_ (D.asA a0) 1))).length : Int)) (D.int (((D.asL (at_ (D.asA a0) 1))).length : Int)))) then
        (loopL (fun s2 =>
            if (decide ((D.asI (at_ s2 0)) < (((D.asL (at_ (D.asA a0) 0))).length : Int))) then
              if (decide (0 ≤ (D.asI (at_ s2 0)) ∧ (D.asI (at_ s2 0)) < (((D.asL (at_ (D.asA a0) 0))).length : Int))) then
              (R 26 [(at_ (D.asL (at_ (D.asA a0) 0)) (Int.toNat (D.asI (at_ s2 0)))), a1, (at_ (D.asA a0) 1), (at_ s2 1)]).bind fun r3 =>
              if (!((D.asI (at_ r3 0)) == (0 : Int))) then
                some (2, [(at_ s2 0), (at_ r3 0)])
              else
                if (decide (0 ≤ (D.asI (at_ (D.asA (at_ (D.asL (at_ (D.asA a0) 0)) (Int.toNat (D.asI (at_ s2 0))))) 1)) ∧ (D.asI (at_ (D.asA (at_ (D.asL (at_ (D.asA a0) 0)) (Int.toNat (D.asI (at_ s2 0))))) 1)) < (((D.asL (at_ s2 1))).length : Int))) then
                some (0, [(D.int (IntKind.wrap .i64 ((D.asI (at_ s2 0)) + (1 : Int)))), (D.list (((D.asL (at_ s2 1))).set (Int.toNat (D.asI (at_ (D.asA (at_ (D.asL (at_ (D.asA a0) 0)) (Int.toNat (D.asI (at_ s2 0))))) 1))) (D.bool true)))])
                else none
              else none
            else
              some (983046, [(at_ s2 1)])) [(D.int 0), (D.list (List.replicate (Int.toNat (((D.asL (at_ (D.asA a0) 1))).length : Int)) (D.bool false)))]).bind fun o1 =>
        if o1.1 = 983046 then
          if ((decide ((D.asI (at_ (D.asA a0) 2)) < (0 : Int))) || (decide ((((D.asL (at_ (D.asA a0) 1))).length : Int) ≤ (D.asI (at_ (D.asA a0) 2))))) then
            some (2, [(D.int (-1)), (D.int 3)])
          else
            if (decide (0 ≤ (D.asI (at_ (D.asA a0) 2)) ∧ (D.asI (at_ (D.asA a0) 2)) < (((D.asL (at_ o1.2 0))).length : Int))) then
            if (!(D.asB (at_ (D.asL (at_ o1.2 0)) (Int.toNat (D.asI (at_ (D.asA a0) 2)))))) then
              some (2, [(D.int (-1)), (D.int 25)])
            else
              some (2, [(D.int (-1)), (D.int 0)])
            else none
        else some o1
        else none : Option Out) := by kernel_rfl
-- errata/vm.Run
def h10 : List (Nat × List (Nat × Tm × Nat)) := []
def il10 : IL := (.call [] 2 9 [(.var 0), (.var 1)] (.ite (.un .not (.bin .ieq (.var 4) (.int 0))) (.out 2 [.lnil, (.var 4)]) (.call [] 1 27 [(.var 1), (.var 2)] (.ite (.un .not (.var 5)) (.out 2 [.lnil, (.int 16)]) (.call [] 1 28 [(.var 0), (.var 2)] (.out 2 [(.var 6), (.int 0)]))))))
theorem d10 : decompF C ⟨[.struct 25, .slice 3, .slice 37], [.slice 39, .int .i64], [true, false]⟩ Tryd.f10 h10 = some il10 := by kernel_rfl
theorem e10 (R : Fns) (a0 a1 a2 : D) : den C.G R il10 [a0, a1, a2] =
    ((R 9 [a0, a1]).bind fun r0 =>
    if (!((D.asI (at_ r0 1)) == (0 : Int))) then
      some (2, [(D.list []), (at_ r0 1)])
    else
      (R 27 [a1, a2]).bind fun r1 =>
      if (!(D.asB (at_ r1 0))) then
        some (2, [(D.list []), (D.int 16)])
      else
        (R 28 [a0, a2]).bind fun r2 =>
        some (2, [(at_ r2 0), (D.int 0)]) : Option Out) := by kernel_rfl
-- errata/errataref27.Project
def h17 : List (Nat × List (Nat × Tm × Nat)) := [(27, [(0, ⟨[(0, (.dat (.slice 25) (.var 0))), (2, (.dat (.slice 37) (.var 2))), (12, (.dat (.int .i64) (.var 4))), (11, (.sli 728 0 37)), (7, (.dat (.int .i64) (.int 0))), (6, (.nils 37))], [(728, (.arr 37 (.var 5) 0))]⟩, 2), (5, ⟨[(11, (.sli 728 0 37)), (7, (.dat (.int .i64) (.int 0))), (6, (.nils 37))], [(728, (.arr 37 (.var 4) 0))]⟩, 1)]), (35, [(0, ⟨[(0, (.dat (.slice 25) (.var 0))), (14, (.dat (.int .i64) (.var 6))), (61, (.agg 37 [(.dat (.int .i64) (.un (.fld 0) (.bin .idx (.var 2) (.var 4)))), (.nils 39), (.dat (.int .i64) (.un (.fld 2) (.bin .idx (.var 2) (.var 4))))])), (13, (.bptr 104 [] 37)), (60, (.dat (.int .i64) (.un (.fld 2) (.bin .idx (.var 2) (.var 4))))), (55, (.dat (.int .i64) (.un (.fld 0) (.bin .idx (.var 2) (.var 4))))), (59, (.dat (.ptr 3) (.un .mkptr (.un (.fld 2) (.bin .idx (.var 2) (.var 4)))))), (58, (.dat (.ptr 37) (.un .mkptr (.bin .idx (.var 2) (.var 4))))), (57, (.dat (.int .i64) (.var 4))), (56, (.dat (.slice 37) (.var 2))), (54, (.dat (.ptr 3) (.un .mkptr (.un (.fld 0) (.bin .idx (.var 2) (.var 4)))))), (53, (.dat (.ptr 37) (.un .mkptr (.bin .idx (.var 2) (.var 4))))), (52, (.dat (.int .i64) (.var 4))), (51, (.dat (.slice 37) (.var 2))), (48, (.dat (.bool) (.bin .ilt (.var 4) (.un .len (.var 2))))), (47, (.dat (.int .i64) (.un .len (.var 2)))), (45, (.dat (.int .i64) (.var 4))), (46, (.dat (.slice 37) (.var 2))), (2, (.dat (.slice 37) (.var 2))), (12, (.dat (.int .i64) (.var 4))), (11, (.sli 728 0 37)), (7, (.dat (.int .i64) (.int 0))), (6, (.nils 37))], [(104, (.box 37 (.agg 37 [(.dat (.int .i64) (.un (.fld 0) (.bin .idx (.var 2) (.var 4)))), (.sli 688 0 39), (.dat (.int .i64) (.un (.fld 2) (.bin .idx (.var 2) (.var 4))))]))), (688, (.arr 39 (.var 7) 0)), (728, (.arr 37 (.var 5) 0))]⟩, 2), (7, ⟨[(65, (.dat (.bool) (.var 6))), (64, (.dat (.int .i64) (.un .len (.var 0)))), (62, (.dat (.int .i64) (.var 7))), (63, (.dat (.slice 25) (.var 0))), (0, (.dat (.slice 25) (.var 0))), (14, (.dat (.int .i64) (.var 8))), (61, (.agg 37 [(.dat (.int .i64) (.un (.fld 0) (.bin .idx (.var 2) (.var 4)))), (.nils 39), (.dat (.int .i64) (.un (.fld 2) (.bin .idx (.var 2) (.var 4))))])), (13, (.bptr 104 [] 37)), (60, (.dat (.int .i64) (.un (.fld 2) (.bin .idx (.var 2) (.var 4))))), (55, (.dat (.int .i64) (.un (.fld 0) (.bin .idx (.var 2) (.var 4))))), (59, (.dat (.ptr 3) (.un .mkptr (.un (.fld 2) (.bin .idx (.var 2) (.var 4)))))), (58, (.dat (.ptr 37) (.un .mkptr (.bin .idx (.var 2) (.var 4))))), (57, (.dat (.int .i64) (.var 4))), (56, (.dat (.slice 37) (.var 2))), (54, (.dat (.ptr 3) (.un .mkptr (.un (.fld 0) (.bin .idx (.var 2) (.var 4)))))), (53, (.dat (.ptr 37) (.un .mkptr (.bin .idx (.var 2) (.var 4))))), (52, (.dat (.int .i64) (.var 4))), (51, (.dat (.slice 37) (.var 2))), (48, (.dat (.bool) (.bin .ilt (.var 4) (.un .len (.var 2))))), (47, (.dat (.int .i64) (.un .len (.var 2)))), (45, (.dat (.int .i64) (.var 4))), (46, (.dat (.slice 37) (.var 2))), (2, (.dat (.slice 37) (.var 2))), (12, (.dat (.int .i64) (.var 4))), (11, (.sli 728 0 37)), (7, (.dat (.int .i64) (.int 0))), (6, (.nils 37))], [(104, (.box 37 (.agg 37 [(.dat (.int .i64) (.un (.fld 0) (.bin .idx (.var 2) (.var 4)))), (.sli 688 0 39), (.dat (.int .i64) (.un (.fld 2) (.bin .idx (.var 2) (.var 4))))]))), (688, (.arr 39 (.var 9) 0)), (728, (.arr 37 (.var 5) 0))]⟩, 4)]), (9, [(0, ⟨[(8, (.dat (.int .i64) (.var 3))), (0, (.dat (.slice 25) (.var 0))), (2, (.dat (.slice 37) (.var 2))), (1, (.dat (.slice 3) (.var 1))), (7, (.dat (.int .i64) (.int 0))), (6, (.nils 37))], []⟩, 1), (3, ⟨[(0, (.dat (.slice 25) (.var 0))), (2, (.dat (.slice 37) (.var 2))), (1, (.dat (.slice 3) (.var 1))), (7, (.dat (.int .i64) (.int 0))), (6, (.nils 37))], []⟩, 0)])]
def il17 : IL := (.ite (.bin .or (.bin .ilt (.un .len (.var 0)) (.int 1)) (.bin .ilt (.int 12) (.un .len (.var 0)))) (.out 2 [.lnil, (.int 1)]) (.bindc (.loop [(.int 0)] (.ite (.bin .ilt (.var 3) (.un .len (.var 0))) (.chk (.bin .inb (.un .len (.var 0)) (.var 3)) (.call [] 2 30 [(.bin .idx (.var 0) (.var 3)), (.var 1)] (.ite (.un .not (.bin .ieq (.var 5) (.int 0))) (.out 2 [.lnil, (.var 5)]) (.out 0 [(.bin (.add .i64) (.var 3) (.int 1))])))) (.out 589830 []))) 589830 0 (.call [] 1 8 [(.var 1), (.var 2)] (.ite (.un .not (.var 3)) (.out 2 [.lnil, (.int 16)]) (.bindc (.loop [(.int 0), .lnil] (.ite (.bin .ilt (.var 4) (.un .len (.var 2))) (.chk (.bin .inb (.un .len (.var 2)) (.var 4)) (.chk (.bin .inb (.un .len (.var 2)) (.var 4)) (.bindc (.loop [(.int 0), .lnil] (.ite (.bin .ilt (.var 6) (.un .len (.var 0))) (.chk (.bin .inb (.un .len (.var 0)) (.var 6)) (.chk (.bin .inb (.un .len (.var 2)) (.var 4)) (.chk (.bin .inb (.un .len (.var 2)) (.var 4)) (.call [] 1 31 [(.bin .idx (.var 0) (.var 6)), (.un (.fld 0) (.bin .idx (.var 2) (.var 4))), (.un (.fld 1) (.bin .idx (.var 2) (.var 4)))] (.chk (.bin (.fits 34359738368) (.un .len (.var 7)) (.un .len (.bin .cons (.var 8) .lnil))) (.out 0 [(.bin (.add .i64) (.var 6) (.int 1)), (.bin .snoc (.var 7) (.var 8))])))))) (.out 2293770 [(.bin .ilt (.var 6) (.un .len (.var 0))), (.var 6), (.var 6), (.var 7)]))) 2293770 4 (.chk (.bin (.fits 34359738368) (.un .len (.var 5)) (.un .len (.bin .cons (.un .mkagg (.bin .cons (.un (.fld 0) (.bin .idx (.var 2) (.var 4))) (.bin .cons (.var 9) (.bin .cons (.un (.fld 2) (.bin .idx (.var 2) (.var 4))) .lnil)))) .lnil))) (.out 0 [(.bin (.add .i64) (.var 4) (.int 1)), (.bin .snoc (.var 5) (.un .mkagg (.bin .cons (.un (.fld 0) (.bin .idx (.var 2) (.var 4))) (.bin .cons (.var 9) (.bin .cons (.un (.fld 2) (.bin .idx (.var 2) (.var 4))) .lnil)))))]))))) (.out 1769480 [(.var 5)]))) 1769480 1 (.out 2 [(.var 4), (.int 0)]))))))
theorem d17 : decompF C ⟨[.slice 25, .slice 3, .slice 37], [.slice 37, .int .i64], [true, false]⟩ Tryd.f17 h17 = some il17 := by kernel_rfl
theorem e17 (R : Fns) (a0 a1 a2 : D) : den C.G R il17 [a0, a1, a2] =
    (if ((decide ((((D.asL a0)).length : Int) < (1 : Int))) || (decide ((12 : Int) < (((D.asL a0)).length : Int)))) then
      some (2, [(D.list []), (D.int 1)])
    else
      (loopL (fun s1 =>
          if (decide ((D.asI (at_ s1 0)) < (((D.asL a0)).length : Int))) then
            if (decide (0 ≤ (D.asI (at_ s1 0)) ∧ (D.asI (at_ s1 0)) < (((D.asL a0)).length : Int))) then
            (R 30 [(at_ (D.asL a0) (Int.toNat (D.asI (at_ s1 0)))), a1]).bind fun r2 =>
            if (!((D.asI (at_ r2 1)) == (0 : Int))) then
              some (2, [(D.list []), (at_ r2 1)])
            else
              some (0, [(D.int (IntKind.wrap .i64 ((D.asI (at_ s1 0)) + (1 : Int))))])
            else none
          else
            some (589830, [])) [(D.int 0)]).bind fun o0 =>
      if o0.1 = 589830 then
        (R 8 [a1, a2]).bind fun r1 =>
        if (!(D.asB (at_ r1 0))) then
          some (2, [(D.list []), (D.int 16)])
        else
          (loopL (fun s3 =>
              if (decide ((D.asI (at_ s3 0)) < (((D.asL a2)).length : Int))) then
                if (decide (0 ≤ (D.asI (at_ s3 0)) ∧ (D.asI (at_ s3 0)) < (((D.asL a2)).length : Int))) then
                if (decide (0 ≤ (D.asI (at_ s3 0)) ∧ (D.asI (at_ s3 0)) < (((D.asL a2)).length : Int))) then
                (loopL (fun s5 =>
                    if (decide ((D.asI (at_ s5 0)) < (((D.asL a0)).length : Int))) then
                      if (decide (0 ≤ (D.asI (at_ s5 0)) ∧ (D.asI (at_ s5 0)) < (((D.asL a0)).length : Int))) then
                      if (decide (0 ≤ (D.asI (at_ s3 0)) ∧ (D.asI (at_ s3 0)) < (((D.asL a2)).length : Int))) then
                      if (decide (0 ≤ (D.asI (at_ s3 0)) ∧ (D.asI (at_ s3 0)) < (((D.asL a2)).length : Int))) then
                      (R 31 [(at_ (D.asL a0) (Int.toNat (D.asI (at_ s5 0)))), (at_ (D.asA (at_ (D.asL a2) (Int.toNat (D.asI (at_ s3 0))))) 0), (at_ (D.asA (at_ (D.asL a2) (Int.toNat (D.asI (at_ s3 0))))) 1)]).bind fun r6 =>
                      if (D.asB (U2.ev (.fits 34359738368) (D.int (((D.asL (at_ s5 1))).length : Int)) (D.int ((((at_ r6 0) :: ([] : List D))).length : Int)))) then
                      some (0, [(D.int (IntKind.wrap .i64 ((D.asI (at_ s5 0)) + (1 : Int)))), (D.list ((D.asL (at_ s5 1)) ++ [(at_ r6 0)]))])
                      else none
                      else none
                      else none
                      else none
                    else
                      some (2293770, [(D.bool (decide ((D.asI (at_ s5 0)) < (((D.asL a0)).length : Int)))), (at_ s5 0), (at_ s5 0), (at_ s5 1)])) [(D.int 0), (D.list [])]).bind fun o4 =>
                if o4.1 = 2293770 then
                  if (D.asB (U2.ev (.fits 34359738368) (D.int (((D.asL (at_ s3 1))).length : Int)) (D.int ((((D.agg ((at_ (D.asA (at_ (D.asL a2) (Int.toNat (D.asI (at_ s3 0))))) 0) :: ((at_ o4.2 3) :: ((at_ (D.asA (at_ (D.asL a2) (Int.toNat (D.asI (at_ s3 0))))) 2) :: ([] : List D))))) :: ([] : List D))).length : Int)))) then
                  some (0, [(D.int (IntKind.wrap .i64 ((D.asI (at_ s3 0)) + (1 : Int)))), (D.list ((D.asL (at_ s3 1)) ++ [(D.agg ((at_ (D.asA (at_ (D.asL a2) (Int.toNat (D.asI (at_ s3 0))))) 0) :: ((at_ o4.2 3) :: ((at_ (D.asA (at_ (D.asL a2) (Int.toNat (D.asI (at_ s3 0))))) 2) :: ([] : List D)))))]))])
                  else none
                else some o4
                else none
                else none
              else
                some (1769480, [(at_ s3 1)])) [(D.int 0), (D.list [])]).bind fun o2 =>
          if o2.1 = 1769480 then
            some (2, [(at_ o2.2 0), (D.int 0)])
          else some o2
      else some o0 : Option Out) := by kernel_rfl
-- errata/code.verify
def h26 : List (Nat × List (Nat × Tm × Nat)) := [(33, [(0, ⟨[(66, (.dat (.slice 3) (.var 5))), (67, (.dat (.int .i64) (.un .len (.var 5)))), (68, (.dat (.int .i64) (.var 7))), (4, (.bptr 32 [] 52)), (12, (.bptr 96 [] 75)), (2, (.dat (.slice 3) (.var 2))), (1, (.dat (.slice 3) (.var 1))), (8, (.dat (.int .i64) (.int 0)))], [(32, (.box 52 (.dat (.struct 52) (.var 0)))), (96, (.box 75 (.agg 75 [(.dat (.int .i64) (.un (.fld 0) (.var 0))), (.dat (.int .i64) (.un (.fld 5) (.var 0))), (.dat (.str) (.un (.fld 6) (.var 0))), (.sli 616 0 75)]))), (616, (.arr 75 (.var 8) 0))]⟩, 2), (5, ⟨[(4, (.bptr 32 [] 52)), (12, (.bptr 96 [] 75)), (2, (.dat (.slice 3) (.var 2))), (1, (.dat (.slice 3) (.var 1))), (8, (.dat (.int .i64) (.int 0)))], [(32, (.box 52 (.dat (.struct 52) (.var 0)))), (96, (.box 75 (.agg 75 [(.dat (.int .i64) (.un (.fld 0) (.var 0))), (.dat (.int .i64) (.un (.fld 5) (.var 0))), (.dat (.str) (.un (.fld 6) (.var 0))), (.sli 616 0 75)]))), (616, (.arr 75 (.var 7) 0))]⟩, 1)]), (11, [(0, ⟨[(26, (.sli 192 0 3)), (27, (.dat (.int .i64) (.un .len (.bin .app (.bin .cons (.un (.fld 1) (.var 0)) .lnil) (.var 5))))), (28, (.dat (.int .i64) (.var 6))), (2, (.dat (.slice 3) (.var 2))), (7, (.bptr 56 [] 57)), (9, (.dat (.slice 3) (.var 5))), (1, (.dat (.slice 3) (.var 1))), (4, (.bptr 32 [] 52)), (8, (.dat (.int .i64) (.int 0)))], [(192, (.arr 3 (.bin .app (.bin .cons (.un (.fld 1) (.var 0)) .lnil) (.var 5)) 0)), (56, (.box 57 (.dat (.slice 4) (.var 3)))), (32, (.box 52 (.dat (.struct 52) (.var 0))))]⟩, 1), (3, ⟨[(2, (.dat (.slice 3) (.var 2))), (7, (.bptr 56 [] 57)), (9, (.dat (.slice 3) (.var 5))), (1, (.dat (.slice 3) (.var 1))), (4, (.bptr 32 [] 52)), (8, (.dat (.int .i64) (.int 0)))], [(56, (.box 57 (.dat (.slice 4) (.var 3)))), (32, (.box 52 (.dat (.struct 52) (.var 0))))]⟩, 0)])]
def il26 : IL := (.call [] 1 38 [(.var 0)] (.ite (.un .not (.var 4)) (.out 2 [(.int 2)]) (.call [] 1 39 [(.var 0)] (.chk (.bin (.fits 34359738368) (.un .len (.bin .cons (.un (.fld 1) (.var 0)) .lnil)) (.un .len (.var 5))) (.bindc (.loop [(.int 0)] (.ite (.bin .ilt (.var 6) (.un .len (.bin .app (.bin .cons (.un (.fld 1) (.var 0)) .lnil) (.var 5)))) (.chk (.bin .inb (.un .len (.bin .app (.bin .cons (.un (.fld 1) (.var 0)) .lnil) (.var 5))) (.var 6)) (.ite (.bin .or (.bin .ilt (.bin .idx (.bin .app (.bin .cons (.un (.fld 1) (.var 0)) .lnil) (.var 5)) (.var 6)) (.int 0)) (.bin .ile (.un .len (.var 2)) (.bin .idx (.bin .app (.bin .cons (.un (.fld 1) (.var 0)) .lnil) (.var 5)) (.var 6)))) (.out 2 [(.int 3)]) (.out 0 [(.bin (.add .i64) (.var 6) (.int 1))]))) (.out 720902 []))) 720902 0 (.ite (.bin .and (.bin .ieq (.un (.fld 0) (.var 0)) (.int 3)) (.bin .or (.bin .ilt (.un (.fld 5) (.var 0)) (.int 0)) (.bin .ile (.un .len (.var 1)) (.un (.fld 5) (.var 0))))) (.out 2 [(.int 3)]) (.call [] 1 24 [(.var 5), (.fn 40 .lnil (.bin .cons (.un .mkptr (.var 3)) .lnil))] (.ite (.var 6) (.out 2 [(.int 25)]) (.bindc (.loop [(.int 0), .lnil] (.ite (.bin .ilt (.var 7) (.un .len (.var 5))) (.chk (.bin .inb (.un .len (.var 5)) (.var 7)) (.chk (.bin (.fits 34359738368) (.un .len (.var 8)) (.un .len (.bin .cons (.un .mkagg (.bin .cons (.int 4) (.bin .cons (.bin .idx (.var 5) (.var 7)) (.bin .cons (.str []) (.bin .cons .lnil .lnil))))) .lnil))) (.out 0 [(.bin (.add .i64) (.var 7) (.int 1)), (.bin .snoc (.var 8) (.un .mkagg (.bin .cons (.int 4) (.bin .cons (.bin .idx (.var 5) (.var 7)) (.bin .cons (.str []) (.bin .cons .lnil .lnil))))))]))) (.out 2162696 [(.var 8)]))) 2162696 1 (.call [] 2 41 [.lnil, (.var 1), (.var 2), (.un .mkagg (.bin .cons (.un (.fld 0) (.var 0)) (.bin .cons (.un (.fld 5) (.var 0)) (.bin .cons (.un (.fld 6) (.var 0)) (.bin .cons (.var 7) .lnil)))))] (.chk (.tri .ite (.un .not (.var 9)) (.bool true) (.bin .inb (.un .len (.var 2)) (.un (.fld 1) (.var 0)))) (.ite (.bin .or (.un .not (.var 9)) (.un .not (.bin .ieq (.var 8) (.bin .idx (.var 2) (.un (.fld 1) (.var 0)))))) (.out 2 [(.int 13)]) (.out 2 [(.int 0)])))))))))))))
theorem d26 : decompF C ⟨[.struct 52, .slice 3, .slice 3, .slice 4], [.int .i64], [false]⟩ Tryd.f26 h26 = some il26 := by kernel_rfl
theorem e26 (R : Fns) (a0 a1 a2 a3 : D) : den C.G R il26 [a0, a1, a2, a3] =
    ((R 38 [a0]).bind fun r0 =>
    if (!(D.asB (at_ r0 0))) then
      some (2, [(D.int 2)])
    else
      (R 39 [a0]).bind fun r1 =>
      if (D.asB (U2.ev (.fits 34359738368) (D.int ((((at_ (D.asA a0) 1) :: ([] : List D))).length : Int)) (D.int (((D.asL (at_ r1 0))).length : Int)))) then
      (loopL (fun s3 =>
          if (decide ((D.asI (at_ s3 0)) < (((((at_ (D.asA a0) 1) :: ([] : List D)) ++ (D.asL (at_ r1 0)))).length : Int))) then
            if (decide (0 ≤ (D.asI (at_ s3 0)) ∧ (D.asI (at_ s3 0)) < (((((at_ (D.asA a0) 1) :: ([] : List D)) ++ (D.asL (at_ r1 0)))).length : Int))) then
            if ((decide ((D.asI (at_ (((at_ (D.asA a0) 1) :: ([] : List D)) ++ (D.asL (at_ r1 0))) (Int.toNat (D.asI (at_ s3 0))))) < (0 : Int))) || (decide ((((D.asL a2)).length : Int) ≤ (D.asI (at_ (((at_ (D.asA a0) 1) :: ([] : List D)) ++ (D.asL (at_ r1 0))) (Int.toNat (D.asI (at_ s3 0)))))))) then
              some (2, [(D.int 3)])
            else
              some (0, [(D.int (IntKind.wrap .i64 ((D.asI (at_ s3 0)) + (1 : Int))))])
            else none
          else
            some (720902, [])) [(D.int 0)]).bind fun o2 =>
      if o2.1 = 720902 then
        if (((D.asI (at_ (D.asA a0) 0)) == (3 : Int)) && ((decide ((D.asI (at_ (D.asA a0) 5)) < (0 : Int))) || (decide ((((D.asL a1)).length : Int) ≤ (D.asI (at_ (D.asA a0) 5)))))) then
          some (2, [(D.int 3)])
        else
          (R 24 [(at_ r1 0), (D.fn 40 ([] : List D) ((D.ptr a3) :: ([] : List D)))]).bind fun r3 =>
          if (D.asB (at_ r3 0)) then
            some (2, [(D.int 25)])
          else
            (loopL (fun s5 =>
                if (decide ((D.asI (at_ s5 0)) < (((D.asL (at_ r1 0))).length : Int))) then
                  if (decide (0 ≤ (D.asI (at_ s5 0)) ∧ (D.asI (at_ s5 0)) < (((D.asL (at_ r1 0))).length : Int))) then
                  if (D.asB (U2.ev (.fits 34359738368) (D.int (((D.asL (at_ s5 1))).length : Int)) (D.int ((((D.agg ((D.int 4) :: ((at_ (D.asL (at_ r1 0)) (Int.toNat (D.asI (at_ s5 0)))) :: ((D.str []) :: ((D.list []) :: ([] : List D)))))) :: ([] : List D))).length : Int)))) then
                  some (0, [(D.int (IntKind.wrap .i64 ((D.asI (at_ s5 0)) + (1 : Int)))), (D.list ((D.asL (at_ s5 1)) ++ [(D.agg ((D.int 4) :: ((at_ (D.asL (at_ r1 0)) (Int.toNat (D.asI (at_ s5 0)))) :: ((D.str []) :: ((D.list []) :: ([] : List D))))))]))])
                  else none
                  else none
                else
                  some (2162696, [(at_ s5 1)])) [(D.int 0), (D.list [])]).bind fun o4 =>
            if o4.1 = 2162696 then
              (R 41 [(D.list []), a1, a2, (D.agg ((at_ (D.asA a0) 0) :: ((at_ (D.asA a0) 5) :: ((at_ (D.asA a0) 6) :: ((at_ o4.2 0) :: ([] : List D))))))]).bind fun r5 =>
              if (D.asB (if (!(D.asB (at_ r5 1))) then (D.bool true) else (D.bool (decide (0 ≤ (D.asI (at_ (D.asA a0) 1)) ∧ (D.asI (at_ (D.asA a0) 1)) < (((D.asL a2)).length : Int)))))) then
              if ((!(D.asB (at_ r5 1))) || (!((D.asI (at_ r5 0)) == (D.asI (at_ (D.asL a2) (Int.toNat (D.asI (at_ (D.asA a0) 1)))))))) then
                some (2, [(D.int 13)])
              else
                some (2, [(D.int 0)])
              else none
            else some o4
      else some o2
      else none : Option Out) := by kernel_rfl
-- slices.Clone[[]int,int]
def h33 : List (Nat × List (Nat × Tm × Nat)) := []
def il33 : IL := (.ite (.bin .ieq (.un .len (.var 0)) (.int 0)) (.both (.out 2 [.lnil]) (.chk (.bin (.fits 34359738368) (.un .len .lnil) (.un .len (.var 0))) (.out 2 [(.bin .app .lnil (.var 0))]))) (.chk (.bin (.fits 34359738368) (.un .len .lnil) (.un .len (.var 0))) (.out 2 [(.bin .app .lnil (.var 0))])))
theorem d33 : decompF C ⟨[.slice 3], [.slice 3], [true]⟩ Tryd.f33 h33 = some il33 := by kernel_rfl
theorem e33 (R : Fns) (a0 : D) : den C.G R il33 [a0] =
    (if ((((D.asL a0)).length : Int) == (0 : Int)) then
      bothO (some (2, [(D.list [])]))
        (if (D.asB (U2.ev (.fits 34359738368) (D.int ((([] : List D)).length : Int)) (D.int (((D.asL a0)).length : Int)))) then
        some (2, [(D.list (([] : List D) ++ (D.asL a0)))])
        else none)
    else
      if (D.asB (U2.ev (.fits 34359738368) (D.int ((([] : List D)).length : Int)) (D.int (((D.asL a0)).length : Int)))) then
      some (2, [(D.list (([] : List D) ++ (D.asL a0)))])
      else none : Option Out) := by kernel_rfl
-- (*errata/vm.machine).three
def h46 : List (Nat × List (Nat × Tm × Nat)) := []
def il46 : IL := (.chk (.un .isptr (.var 0)) (.chk (.bin .inb (.un .len (.un (.fld 1) (.un .deref (.var 0)))) (.un (.fld 2) (.var 1))) (.chk (.un .isptr (.var 0)) (.chk (.bin .inb (.un .len (.un (.fld 1) (.un .deref (.var 0)))) (.un (.fld 3) (.var 1))) (.chk (.un .isptr (.var 0)) (.chk (.bin .inb (.un .len (.un (.fld 1) (.un .deref (.var 0)))) (.un (.fld 4) (.var 1))) (.call [] 1 60 [(.var 0), (.fn 69 .lnil (.bin .cons (.un .mkptr (.bin .idx (.un (.fld 1) (.un .deref (.var 0))) (.un (.fld 2) (.var 1)))) (.bin .cons (.un .mkptr (.bin .idx (.un (.fld 1) (.un .deref (.var 0))) (.un (.fld 3) (.var 1)))) (.bin .cons (.un .mkptr (.bin .idx (.un (.fld 1) (.un .deref (.var 0))) (.un (.fld 4) (.var 1)))) .lnil))))] (.out 2 [(.var 2)]))))))))
theorem d46 : decompF C ⟨[.ptr 81, .struct 52], [.slice 39], [true]⟩ Tryd.f46 h46 = some il46 := by kernel_rfl
theorem e46 (R : Fns) (a0 a1 : D) : den C.G R il46 [a0, a1] =
    (if (D.isP a0) then
    if (decide (0 ≤ (D.asI (at_ (D.asA a1) 2)) ∧ (D.asI (at_ (D.asA a1) 2)) < (((D.asL (at_ (D.asA (D.asP a0)) 1))).length : Int))) then
    if (D.isP a0) then
    if (decide (0 ≤ (D.asI (at_ (D.asA a1) 3)) ∧ (D.asI (at_ (D.asA a1) 3)) < (((D.asL (at_ (D.asA (D.asP a0)) 1))).length : Int))) then
    if (D.isP a0) then
    if (decide (0 ≤ (D.asI (at_ (D.asA a1) 4)) ∧ (D.asI (at_ (D.asA a1) 4)) < (((D.asL (at_ (D.asA (D.asP a0)) 1))).length : Int))) then
    (R 60 [a0, (D.fn 69 ([] : List D) ((D.ptr (at_ (D.asL (at_ (D.asA (D.asP a0)) 1)) (Int.toNat (D.asI (at_ (D.asA a1) 2))))) :: ((D.ptr (at_ (D.asL (at_ (D.asA (D.asP a0)) 1)) (Int.toNat (D.asI (at_ (D.asA a1) 3))))) :: ((D.ptr (at_ (D.asL (at_ (D.asA (D.asP a0)) 1)) (Int.toNat (D.asI (at_ (D.asA a1) 4))))) :: ([] : List D)))))]).bind fun r0 =>
    some (2, [(at_ r0 0)])
    else none
    else none
    else none
    else none
    else none
    else none : Option Out) := by kernel_rfl
-- errata/errataref25.formed
def h48 : List (Nat × List (Nat × Tm × Nat)) := [(18, [(1, ⟨[(37, (.dat (.int .i64) (.un (.fld 0) (.var 0)))), (38, (.dat (.bool) (.var 3))), (1, (.bptr 8 [] 52)), (2, (.dat (.bool) (.bool false)))], [(8, (.box 52 (.dat (.struct 52) (.var 0))))]⟩, 1)])]
def il48 : IL := (.call [] 1 70 [(.un (.fld 0) (.var 0))] (.ite (.bin .seq (.var 1) (.str [])) (.out 2 [(.bool false)]) (.call [] 1 71 [(.un (.fld 0) (.var 0))] (.ite (.bin .or (.bin .or (.bin .and (.bin .ilt (.var 2) (.int 3)) (.un .not (.bin .ieq (.un (.fld 4) (.var 0)) (.int 0)))) (.bin .and (.bin .ilt (.var 2) (.int 2)) (.un .not (.bin .ieq (.un (.fld 3) (.var 0)) (.int 0))))) (.bin .and (.bin .ilt (.var 2) (.int 1)) (.un .not (.bin .ieq (.un (.fld 2) (.var 0)) (.int 0))))) (.out 2 [(.bool false)]) (.bindc (.ite (.bin .ieq (.un (.fld 0) (.var 0)) (.int 0)) (.out 1179652 [(.bin .ieq (.un (.fld 0) (.var 0)) (.int 0))]) (.out 1179652 [(.bin .ieq (.un (.fld 0) (.var 0)) (.int 3))])) 1179652 1 (.ite (.var 3) (.out 2 [(.bin .seq (.un (.fld 6) (.var 0)) (.str []))]) (.ite (.bin .ieq (.un (.fld 0) (.var 0)) (.int 2)) (.out 2 [(.bin .and (.bin .seq (.un (.fld 6) (.var 0)) (.str [])) (.bin .or (.bin .ieq (.un (.fld 5) (.var 0)) (.int 0)) (.bin .ieq (.un (.fld 5) (.var 0)) (.int 1))))]) (.ite (.bin .ieq (.un (.fld 0) (.var 0)) (.int 1)) (.out 2 [(.bin .and (.bin .ieq (.un (.fld 5) (.var 0)) (.int 0)) (.bin .ile (.un .slen (.un (.fld 6) (.var 0))) (.int 200)))]) (.out 2 [(.bin .and (.bin .ieq (.un (.fld 5) (.var 0)) (.int 0)) (.bin .seq (.un (.fld 6) (.var 0)) (.str [])))])))))))))
theorem d48 : decompF C ⟨[.struct 52], [.bool], [false]⟩ Tryd.f48 h48 = some il48 := by kernel_rfl
theorem e48 (R : Fns) (a0 : D) : den C.G R il48 [a0] =
    ((R 70 [(at_ (D.asA a0) 0)]).bind fun r0 =>
    if ((D.asS (at_ r0 0)) == []) then
      some (2, [(D.bool false)])
    else
      (R 71 [(at_ (D.asA a0) 0)]).bind fun r1 =>
      if ((((decide ((D.asI (at_ r1 0)) < (3 : Int))) && (!((D.asI (at_ (D.asA a0) 4)) == (0 : Int)))) || ((decide ((D.asI (at_ r1 0)) < (2 : Int))) && (!((D.asI (at_ (D.asA a0) 3)) == (0 : Int))))) || ((decide ((D.asI (at_ r1 0)) < (1 : Int))) && (!((D.asI (at_ (D.asA a0) 2)) == (0 : Int))))) then
        some (2, [(D.bool false)])
      else
        (if ((D.asI (at_ (D.asA a0) 0)) == (0 : Int)) then
            some (1179652, [(D.bool ((D.asI (at_ (D.asA a0) 0)) == (0 : Int)))])
          else
            some (1179652, [(D.bool ((D.asI (at_ (D.asA a0) 0)) == (3 : Int)))])).bind fun o2 =>
        if o2.1 = 1179652 then
          if (D.asB (at_ o2.2 0)) then
            some (2, [(D.bool ((D.asS (at_ (D.asA a0) 6)) == []))])
          else
            if ((D.asI (at_ (D.asA a0) 0)) == (2 : Int)) then
              some (2, [(D.bool (((D.asS (at_ (D.asA a0) 6)) == []) && (((D.asI (at_ (D.asA a0) 5)) == (0 : Int)) || ((D.asI (at_ (D.asA a0) 5)) == (1 : Int)))))])
            else
              if ((D.asI (at_ (D.asA a0) 0)) == (1 : Int)) then
                some (2, [(D.bool (((D.asI (at_ (D.asA a0) 5)) == (0 : Int)) && (decide ((((D.asS (at_ (D.asA a0) 6))).length : Int) ≤ (200 : Int)))))])
              else
                some (2, [(D.bool (((D.asI (at_ (D.asA a0) 5)) == (0 : Int)) && ((D.asS (at_ (D.asA a0) 6)) == [])))])
        else some o2 : Option Out) := by kernel_rfl
-- errata/errataref25.Operands
def h49 : List (Nat × List (Nat × Tm × Nat)) := []
def il49 : IL := (.call [] 1 70 [(.un (.fld 0) (.var 0))] (.ite (.bin .seq (.var 1) (.str [])) (.out 2 [.lnil]) (.call [] 1 71 [(.un (.fld 0) (.var 0))] (.chk (.tri .cut (.int 0) (.var 2) (.un .len (.bin .cons (.un (.fld 2) (.var 0)) (.bin .cons (.un (.fld 3) (.var 0)) (.bin .cons (.un (.fld 4) (.var 0)) .lnil))))) (.out 2 [(.bin .drop (.bin .take (.bin .cons (.un (.fld 2) (.var 0)) (.bin .cons (.un (.fld 3) (.var 0)) (.bin .cons (.un (.fld 4) (.var 0)) .lnil))) (.var 2)) (.int 0))])))))
theorem d49 : decompF C ⟨[.struct 52], [.slice 3], [false]⟩ Tryd.f49 h49 = some il49 := by kernel_rfl
theorem e49 (R : Fns) (a0 : D) : den C.G R il49 [a0] =
    ((R 70 [(at_ (D.asA a0) 0)]).bind fun r0 =>
    if ((D.asS (at_ r0 0)) == []) then
      some (2, [(D.list [])])
    else
      (R 71 [(at_ (D.asA a0) 0)]).bind fun r1 =>
      if (decide (0 ≤ (0 : Int) ∧ (0 : Int) ≤ (D.asI (at_ r1 0)) ∧ (D.asI (at_ r1 0)) ≤ ((((at_ (D.asA a0) 2) :: ((at_ (D.asA a0) 3) :: ((at_ (D.asA a0) 4) :: ([] : List D))))).length : Int))) then
      some (2, [(D.list ((((((at_ (D.asA a0) 2) :: ((at_ (D.asA a0) 3) :: ((at_ (D.asA a0) 4) :: ([] : List D))))).take (Int.toNat (D.asI (at_ r1 0))))).drop (Int.toNat (0 : Int))))])
      else none : Option Out) := by kernel_rfl
-- errata/errataref25.Results
def h51 : List (Nat × List (Nat × Tm × Nat)) := [(9, [(0, ⟨[(2, (.dat (.slice 39) (.var 2))), (1, (.dat (.int .i64) (.var 1))), (7, (.sli 144 0 39)), (3, (.bptr 24 [] 25)), (9, (.dat (.int .i64) (.var 3))), (8, (.sli 568 0 39)), (6, (.nils 39))], [(144, (.arr 39 (.var 4) 0)), (24, (.box 25 (.dat (.struct 25) (.var 0)))), (568, (.arr 39 (.var 5) 0))]⟩, 3), (3, ⟨[(8, (.sli 568 0 39)), (6, (.nils 39))], [(568, (.arr 39 (.var 3) 0))]⟩, 1)]), (21, [(0, ⟨[(2, (.dat (.slice 39) (.var 2))), (1, (.dat (.int .i64) (.var 1))), (7, (.sli 144 0 39)), (12, (.dat (.slice 3) (.var 6))), (13, (.dat (.int .i64) (.var 7))), (39, (.dat (.slice 3) (.var 6))), (38, (.dat (.struct 52) (.bin .idx (.un (.fld 0) (.var 0)) (.var 3)))), (37, (.agg 75 [(.dat (.int .i64) (.un (.fld 0) (.bin .idx (.un (.fld 0) (.var 0)) (.var 3)))), (.dat (.int .i64) (.un (.fld 5) (.bin .idx (.un (.fld 0) (.var 0)) (.var 3)))), (.dat (.str) (.un (.fld 6) (.bin .idx (.un (.fld 0) (.var 0)) (.var 3)))), (.nils 75)])), (11, (.bptr 88 [] 75)), (36, (.dat (.str) (.un (.fld 6) (.bin .idx (.un (.fld 0) (.var 0)) (.var 3))))), (34, (.dat (.int .i64) (.un (.fld 5) (.bin .idx (.un (.fld 0) (.var 0)) (.var 3))))), (32, (.dat (.int .i64) (.un (.fld 0) (.bin .idx (.un (.fld 0) (.var 0)) (.var 3))))), (35, (.bptr 80 [6] 9)), (33, (.bptr 80 [5] 3)), (31, (.bptr 80 [0] 3)), (30, (.dat (.struct 52) (.bin .idx (.un (.fld 0) (.var 0)) (.var 3)))), (10, (.bptr 80 [] 52)), (29, (.dat (.ptr 52) (.un .mkptr (.bin .idx (.un (.fld 0) (.var 0)) (.var 3))))), (28, (.dat (.int .i64) (.var 3))), (27, (.dat (.slice 52) (.un (.fld 0) (.var 0)))), (26, (.bptr 24 [0] 22)), (23, (.dat (.bool) (.bin .ilt (.var 3) (.un .len (.un (.fld 0) (.var 0)))))), (22, (.dat (.int .i64) (.un .len (.un (.fld 0) (.var 0))))), (19, (.dat (.int .i64) (.var 3))), (21, (.dat (.slice 52) (.un (.fld 0) (.var 0)))), (20, (.bptr 24 [0] 22)), (3, (.bptr 24 [] 25)), (9, (.dat (.int .i64) (.var 3))), (8, (.sli 568 0 39)), (6, (.nils 39))], [(144, (.arr 39 (.var 4) 0)), (88, (.box 75 (.agg 75 [(.dat (.int .i64) (.un (.fld 0) (.bin .idx (.un (.fld 0) (.var 0)) (.var 3)))), (.dat (.int .i64) (.un (.fld 5) (.bin .idx (.un (.fld 0) (.var 0)) (.var 3)))), (.dat (.str) (.un (.fld 6) (.bin .idx (.un (.fld 0) (.var 0)) (.var 3)))), (.sli 456 0 75)]))), (456, (.arr 75 (.var 8) 0)), (80, (.box 52 (.dat (.struct 52) (.bin .idx (.un (.fld 0) (.var 0)) (.var 3))))), (24, (.box 25 (.dat (.struct 25) (.var 0)))), (568, (.arr 39 (.var 5) 0))]⟩, 2), (5, ⟨[(2, (.dat (.slice 39) (.var 2))), (1, (.dat (.int .i64) (.var 1))), (7, (.sli 144 0 39)), (43, (.dat (.bool) (.var 7))), (42, (.dat (.int .i64) (.un .len (.var 6)))), (40, (.dat (.int .i64) (.var 8))), (41, (.dat (.slice 3) (.var 6))), (12, (.dat (.slice 3) (.var 6))), (13, (.dat (.int .i64) (.var 9))), (39, (.dat (.slice 3) (.var 6))), (38, (.dat (.struct 52) (.bin .idx (.un (.fld 0) (.var 0)) (.var 3)))), (37, (.agg 75 [(.dat (.int .i64) (.un (.fld 0) (.bin .idx (.un (.fld 0) (.var 0)) (.var 3)))), (.dat (.int .i64) (.un (.fld 5) (.bin .idx (.un (.fld 0) (.var 0)) (.var 3)))), (.dat (.str) (.un (.fld 6) (.bin .idx (.un (.fld 0) (.var 0)) (.var 3)))), (.nils 75)])), (11, (.bptr 88 [] 75)), (36, (.dat (.str) (.un (.fld 6) (.bin .idx (.un (.fld 0) (.var 0)) (.var 3))))), (34, (.dat (.int .i64) (.un (.fld 5) (.bin .idx (.un (.fld 0) (.var 0)) (.var 3))))), (32, (.dat (.int .i64) (.un (.fld 0) (.bin .idx (.un (.fld 0) (.var 0)) (.var 3))))), (35, (.bptr 80 [6] 9)), (33, (.bptr 80 [5] 3)), (31, (.bptr 80 [0] 3)), (30, (.dat (.struct 52) (.bin .idx (.un (.fld 0) (.var 0)) (.var 3)))), (10, (.bptr 80 [] 52)), (29, (.dat (.ptr 52) (.un .mkptr (.bin .idx (.un (.fld 0) (.var 0)) (.var 3))))), (28, (.dat (.int .i64) (.var 3))), (27, (.dat (.slice 52) (.un (.fld 0) (.var 0)))), (26, (.bptr 24 [0] 22)), (23, (.dat (.bool) (.bin .ilt (.var 3) (.un .len (.un (.fld 0) (.var 0)))))), (22, (.dat (.int .i64) (.un .len (.un (.fld 0) (.var 0))))), (19, (.dat (.int .i64) (.var 3))), (21, (.dat (.slice 52) (.un (.fld 0) (.var 0)))), (20, (.bptr 24 [0] 22)), (3, (.bptr 24 [] 25)), (9, (.dat (.int .i64) (.var 3))), (8, (.sli 568 0 39)), (6, (.nils 39))], [(144, (.arr 39 (.var 4) 0)), (88, (.box 75 (.agg 75 [(.dat (.int .i64) (.un (.fld 0) (.bin .idx (.un (.fld 0) (.var 0)) (.var 3)))), (.dat (.int .i64) (.un (.fld 5) (.bin .idx (.un (.fld 0) (.var 0)) (.var 3)))), (.dat (.str) (.un (.fld 6) (.bin .idx (.un (.fld 0) (.var 0)) (.var 3)))), (.sli 456 0 75)]))), (456, (.arr 75 (.var 10) 0)), (80, (.box 52 (.dat (.struct 52) (.bin .idx (.un (.fld 0) (.var 0)) (.var 3))))), (24, (.box 25 (.dat (.struct 25) (.var 0)))), (568, (.arr 39 (.var 5) 0))]⟩, 4)])]
def il51 : IL := (.chk (.bin (.ble 34359738368) (.un .len (.un (.fld 1) (.var 0))) (.un .len (.un (.fld 1) (.var 0)))) (.bindc (.loop [(.int 0), (.bin .rep (.un .len (.un (.fld 1) (.var 0))) (.un .mkagg (.bin .cons (.int 0) (.bin .cons (.int 0) (.bin .cons (.str []) .lnil))))), .lnil] (.ite (.bin .ilt (.var 3) (.un .len (.un (.fld 0) (.var 0)))) (.chk (.bin .inb (.un .len (.un (.fld 0) (.var 0))) (.var 3)) (.call [] 1 49 [(.bin .idx (.un (.fld 0) (.var 0)) (.var 3))] (.bindc (.loop [(.int 0), .lnil] (.ite (.bin .ilt (.var 7) (.un .len (.var 6))) (.chk (.bin .inb (.un .len (.var 6)) (.var 7)) (.chk (.bin .inb (.un .len (.var 4)) (.bin .idx (.var 6) (.var 7))) (.call [] 1 73 [(.bin .idx (.var 4) (.bin .idx (.var 6) (.var 7)))] (.chk (.bin (.fits 34359738368) (.un .len (.var 8)) (.un .len (.bin .cons (.var 9) .lnil))) (.out 0 [(.bin (.add .i64) (.var 7) (.int 1)), (.bin .snoc (.var 8) (.var 9))]))))) (.out 1376264 [(.bin .ilt (.var 7) (.un .len (.var 6))), (.var 7), (.var 7), (.var 8)]))) 1376264 4 (.call [] 1 74 [.lnil, (.un .mkagg (.bin .cons (.un (.fld 0) (.bin .idx (.un (.fld 0) (.var 0)) (.var 3))) (.bin .cons (.un (.fld 5) (.bin .idx (.un (.fld 0) (.var 0)) (.var 3))) (.bin .cons (.un (.fld 6) (.bin .idx (.un (.fld 0) (.var 0)) (.var 3))) (.bin .cons (.var 10) .lnil))))), (.var 1), (.var 2)] (.chk (.bin .inb (.un .len (.var 4)) (.un (.fld 1) (.bin .idx (.un (.fld 0) (.var 0)) (.var 3)))) (.chk (.bin (.fits 34359738368) (.un .len (.var 5)) (.un .len (.bin .cons (.var 11) .lnil))) (.out 0 [(.bin (.add .i64) (.var 3) (.int 1)), (.tri .set (.var 4) (.un (.fld 1) (.bin .idx (.un (.fld 0) (.var 0)) (.var 3))) (.var 11)), (.bin .snoc (.var 5) (.var 11))]))))))) (.out 589830 [(.var 5)]))) 589830 1 (.out 2 [(.var 3)])))
theorem d51 : decompF C ⟨[.struct 25, .int .i64, .slice 39], [.slice 39], [true]⟩ Tryd.f51 h51 = some il51 := by kernel_rfl
theorem e51 (R : Fns) (a0 a1 a2 : D) : den C.G R il51 [a0, a1, a2] =
    (if (D.asB (U2.ev (.ble 34359738368) (D.int (((D.asL (at_ (D.asA a0) 1))).length : Int)) (D.int (((D.asL (at_ (D.asA a0) 1))).length : Int)))) then
    (loopL (fun s1 =>
        if (decide ((D.asI (at_ s1 0)) < (((D.asL (at_ (D.asA a0) 0))).length : Int))) then
          if (decide (0 ≤ (D.asI (at_ s1 0)) ∧ (D.asI (at_ s1 0)) < (((D.asL (at_ (D.asA a0) 0))).length : Int))) then
          (R 49 [(at_ (D.asL (at_ (D.asA a0) 0)) (Int.toNat (D.asI (at_ s1 0))))]).bind fun r2 =>
          (loopL (fun s4 =>
              if (decide ((D.asI (at_ s4 0)) < (((D.asL (at_ r2 0))).length : Int))) then
                if (decide (0 ≤ (D.asI (at_ s4 0)) ∧ (D.asI (at_ s4 0)) < (((D.asL (at_ r2 0))).length : Int))) then
                if (decide (0 ≤ (D.asI (at_ (D.asL (at_ r2 0)) (Int.toNat (D.asI (at_ s4 0))))) ∧ (D.asI (at_ (D.asL (at_ r2 0)) (Int.toNat (D.asI (at_ s4 0))))) < (((D.asL (at_ s1 1))).length : Int))) then
                (R 73 [(at_ (D.asL (at_ s1 1)) (Int.toNat (D.asI (at_ (D.asL (at_ r2 0)) (Int.toNat (D.asI (at_ s4 0)))))))]).bind fun r5 =>
                if (D.asB (U2.ev (.fits 34359738368) (D.int (((D.asL (at_ s4 1))).length : Int)) (D.int ((((at_ r5 0) :: ([] : List D))).length : Int)))) then
                some (0, [(D.int (IntKind.wrap .i64 ((D.asI (at_ s4 0)) + (1 : Int)))), (D.list ((D.asL (at_ s4 1)) ++ [(at_ r5 0)]))])
                else none
                else none
                else none
              else
                some (1376264, [(D.bool (decide ((D.asI (at_ s4 0)) < (((D.asL (at_ r2 0))).length : Int)))), (at_ s4 0), (at_ s4 0), (at_ s4 1)])) [(D.int 0), (D.list [])]).bind fun o3 =>
          if o3.1 = 1376264 then
            (R 74 [(D.list []), (D.agg ((at_ (D.asA (at_ (D.asL (at_ (D.asA a0) 0)) (Int.toNat (D.asI (at_ s1 0))))) 0) :: ((at_ (D.asA (at_ (D.asL (at_ (D.asA a0) 0)) (Int.toNat (D.asI (at_ s1 0))))) 5) :: ((at_ (D.asA (at_ (D.asL (at_ (D.asA a0) 0)) (Int.toNat (D.asI (at_ s1 0))))) 6) :: ((at_ o3.2 3) :: ([] : List D)))))), a1, a2]).bind fun r4 =>
            if (decide (0 ≤ (D.asI (at_ (D.asA (at_ (D.asL (at_ (D.asA a0) 0)) (Int.toNat (D.asI (at_ s1 0))))) 1)) ∧ (D.asI (at_ (D.asA (at_ (D.asL (at_ (D.asA a0) 0)) (Int.toNat (D.asI (at_ s1 0))))) 1)) < (((D.asL (at_ s1 1))).length : Int))) then
            if (D.asB (U2.ev (.fits 34359738368) (D.int (((D.asL (at_ s1 2))).length : Int)) (D.int ((((at_ r4 0) :: ([] : List D))).length : Int)))) then
            some (0, [(D.int (IntKind.wrap .i64 ((D.asI (at_ s1 0)) + (1 : Int)))), (D.list (((D.asL (at_ s1 1))).set (Int.toNat (D.asI (at_ (D.asA (at_ (D.asL (at_ (D.asA a0) 0)) (Int.toNat (D.asI (at_ s1 0))))) 1))) (at_ r4 0))), (D.list ((D.asL (at_ s1 2)) ++ [(at_ r4 0)]))])
            else none
            else none
          else some o3
          else none
        else
          some (589830, [(at_ s1 2)])) [(D.int 0), (D.list (List.replicate (Int.toNat (((D.asL (at_ (D.asA a0) 1))).length : Int)) (D.agg ((D.int 0) :: ((D.int 0) :: ((D.str []) :: ([] : List D))))))), (D.list [])]).bind fun o0 =>
    if o0.1 = 589830 then
      some (2, [(at_ o0.2 0)])
    else some o0
    else none : Option Out) := by kernel_rfl
-- errata/errataref16.Type
def h72 : List (Nat × List (Nat × Tm × Nat)) := []
def il72 : IL := (.call [] 1 86 [(.var 0)] (.ite (.un .not (.var 4)) (.out 2 [(.int 0), (.bool false)]) (.call [] 2 87 [(.var 0), (.var 1), (.var 2), (.var 3)] (.out 2 [(.var 5), (.var 6)]))))
theorem d72 : decompF C ⟨[.slice 107, .slice 3, .slice 3, .struct 75], [.int .i64, .bool], [false, false]⟩ Tryd.f72 h72 = some il72 := by kernel_rfl
theorem e72 (R : Fns) (a0 a1 a2 a3 : D) : den C.G R il72 [a0, a1, a2, a3] =
    ((R 86 [a0]).bind fun r0 =>
    if (!(D.asB (at_ r0 0))) then
      some (2, [(D.int 0), (D.bool false)])
    else
      (R 87 [a0, a1, a2, a3]).bind fun r1 =>
      some (2, [(at_ r1 0), (at_ r1 1)]) : Option Out) := by kernel_rfl
-- slices.ContainsFunc[[]errata/api.Value,errata/api.Value]
def h79 : List (Nat × List (Nat × Tm × Nat)) := []
def il79 : IL := (.call [] 1 92 [(.var 0), (.var 1)] (.out 2 [(.bin .ile (.int 0) (.var 2))]))
theorem d79 : decompF C ⟨[.slice 39, .func 88], [.bool], [false]⟩ Tryd.f79 h79 = some il79 := by kernel_rfl
theorem e79 (R : Fns) (a0 a1 : D) : den C.G R il79 [a0, a1] =
    ((R 92 [a0, a1]).bind fun r0 =>
    some (2, [(D.bool (decide ((0 : Int) ≤ (D.asI (at_ r0 0)))))]) : Option Out) := by kernel_rfl
-- strings.Compare
def h84 : List (Nat × List (Nat × Tm × Nat)) := []
def il84 : IL := (.call [] 1 94 [(.var 0), (.var 1)] (.out 2 [(.var 2)]))
theorem d84 : decompF C ⟨[.str, .str], [.int .i64], [false]⟩ Tryd.f84 h84 = some il84 := by kernel_rfl
theorem e84 (R : Fns) (a0 a1 : D) : den C.G R il84 [a0, a1] =
    ((R 94 [a0, a1]).bind fun r0 =>
    some (2, [(at_ r0 0)]) : Option Out) := by kernel_rfl
-- slices.Equal[[]int,int]
def h90 : List (Nat × List (Nat × Tm × Nat)) := [(9, [(0, ⟨[(1, (.dat (.slice 3) (.var 1))), (0, (.dat (.slice 3) (.var 0))), (12, (.dat (.int .i64) (.un .len (.var 0)))), (13, (.dat (.int .i64) (.var 2))), (4, (.dat (.bool) (.bool false)))], []⟩, 1), (3, ⟨[(4, (.dat (.bool) (.bool false)))], []⟩, 0)])]
def il90 : IL := (.ite (.un .not (.bin .ieq (.un .len (.var 0)) (.un .len (.var 1)))) (.out 2 [(.bool false)]) (.bindc (.loop [(.int 0)] (.ite (.bin .ilt (.var 2) (.un .len (.var 0))) (.chk (.bin .inb (.un .len (.var 0)) (.var 2)) (.chk (.bin .inb (.un .len (.var 1)) (.var 2)) (.ite (.un .not (.bin .ieq (.bin .idx (.var 0) (.var 2)) (.bin .idx (.var 1) (.var 2)))) (.out 2 [(.bool false)]) (.out 0 [(.bin (.add .i64) (.var 2) (.int 1))])))) (.out 589830 []))) 589830 0 (.out 2 [(.bool true)])))
theorem d90 : decompF C ⟨[.slice 3, .slice 3], [.bool], [false]⟩ Tryd.f90 h90 = some il90 := by kernel_rfl
theorem e90 (R : Fns) (a0 a1 : D) : den C.G R il90 [a0, a1] =
    (if (!((((D.asL a0)).length : Int) == (((D.asL a1)).length : Int))) then
      some (2, [(D.bool false)])
    else
      (loopL (fun s1 =>
          if (decide ((D.asI (at_ s1 0)) < (((D.asL a0)).length : Int))) then
            if (decide (0 ≤ (D.asI (at_ s1 0)) ∧ (D.asI (at_ s1 0)) < (((D.asL a0)).length : Int))) then
            if (decide (0 ≤ (D.asI (at_ s1 0)) ∧ (D.asI (at_ s1 0)) < (((D.asL a1)).length : Int))) then
            if (!((D.asI (at_ (D.asL a0) (Int.toNat (D.asI (at_ s1 0))))) == (D.asI (at_ (D.asL a1) (Int.toNat (D.asI (at_ s1 0))))))) then
              some (2, [(D.bool false)])
            else
              some (0, [(D.int (IntKind.wrap .i64 ((D.asI (at_ s1 0)) + (1 : Int))))])
            else none
            else none
          else
            some (589830, [])) [(D.int 0)]).bind fun o0 =>
      if o0.1 = 589830 then
        some (2, [(D.bool true)])
      else some o0 : Option Out) := by kernel_rfl
-- errata/errataref16.kind
def h95 : List (Nat × List (Nat × Tm × Nat)) := []
def il95 : IL := (.out 2 [(.bin .and (.bin .ile (.int 0) (.var 0)) (.bin .ilt (.var 0) (.int 3)))])
theorem d95 : decompF C ⟨[.int .i64], [.bool], [false]⟩ Tryd.f95 h95 = some il95 := by kernel_rfl
theorem e95 (R : Fns) (a0 : D) : den C.G R il95 [a0] =
    (some (2, [(D.bool ((decide ((0 : Int) ≤ (D.asI a0))) && (decide ((D.asI a0) < (3 : Int)))))]) : Option Out) := by kernel_rfl
-- errata/expr.pick
def h99 : List (Nat × List (Nat × Tm × Nat)) := []
def il99 : IL := (.chk (.tri .ite (.bin .or (.bin .ilt (.var 1) (.int 0)) (.bin .ile (.un .len (.var 0)) (.var 1))) (.bool true) (.bin .inb (.un .len (.var 0)) (.var 1))) (.call [((.bin .or (.bin .ilt (.var 1) (.int 0)) (.bin .ile (.un .len (.var 0)) (.var 1))), false)] 1 76 [(.bin .idx (.var 0) (.var 1))] (.ite (.bin .or (.bin .or (.bin .ilt (.var 1) (.int 0)) (.bin .ile (.un .len (.var 0)) (.var 1))) (.un .not (.var 2))) (.out 2 [(.int 0), (.bool false)]) (.chk (.bin .inb (.un .len (.var 0)) (.var 1)) (.out 2 [(.bin .idx (.var 0) (.var 1)), (.bool true)])))))
theorem d99 : decompF C ⟨[.slice 3, .int .i64], [.int .i64, .bool], [false, false]⟩ Tryd.f99 h99 = some il99 := by kernel_rfl
theorem e99 (R : Fns) (a0 a1 : D) : den C.G R il99 [a0, a1] =
    (if (D.asB (if ((decide ((D.asI a1) < (0 : Int))) || (decide ((((D.asL a0)).length : Int) ≤ (D.asI a1)))) then (D.bool true) else (D.bool (decide (0 ≤ (D.asI a1) ∧ (D.asI a1) < (((D.asL a0)).length : Int)))))) then
    callIf ((((decide ((D.asI a1) < (0 : Int))) || (decide ((((D.asL a0)).length : Int) ≤ (D.asI a1)))) == false) && true) (R 76 [(at_ (D.asL a0) (Int.toNat (D.asI a1)))]) fun r0 =>
    if (((decide ((D.asI a1) < (0 : Int))) || (decide ((((D.asL a0)).length : Int) ≤ (D.asI a1)))) || (!(D.asB (at_ r0 0)))) then
      some (2, [(D.int 0), (D.bool false)])
    else
      if (decide (0 ≤ (D.asI a1) ∧ (D.asI a1) < (((D.asL a0)).length : Int))) then
      some (2, [(at_ (D.asL a0) (Int.toNat (D.asI a1))), (D.bool true)])
      else none
    else none : Option Out) := by kernel_rfl
-- errata/expr.operation$1
def h100 : List (Nat × List (Nat × Tm × Nat)) := []
def il100 : IL := (.chk (.un .isptr (.var 2)) (.call [((.bin .ieq (.un .len (.un .deref (.var 2))) (.var 1)), true)] 1 24 [(.un .deref (.var 2)), (.fn 101 .lnil (.bin .cons (.un .mkptr (.var 0)) .lnil))] (.out 2 [(.bin .and (.bin .ieq (.un .len (.un .deref (.var 2))) (.var 1)) (.un .not (.var 3)))])))
theorem d100 : decompF C ⟨[.int .i64, .int .i64, .ptr 23], [.bool], [false]⟩ Tryd.f100 h100 = some il100 := by kernel_rfl
theorem e100 (R : Fns) (a0 a1 a2 : D) : den C.G R il100 [a0, a1, a2] =
    (if (D.isP a2) then
    callIf ((((((D.asL (D.asP a2))).length : Int) == (D.asI a1)) == true) && true) (R 24 [(D.asP a2), (D.fn 101 ([] : List D) ((D.ptr a0) :: ([] : List D)))]) fun r0 =>
    some (2, [(D.bool (((((D.asL (D.asP a2))).length : Int) == (D.asI a1)) && (!(D.asB (at_ r0 0)))))])
    else none : Option Out) := by kernel_rfl
end Go.Proofs.YtlbckmllpciglaaDoor
