/- Some functions' texts, and what they mean. Printed by a program of this claim's author. -/
import Derived.Test.YtlbckmllpciglaaDoorSyA
set_option linter.unusedVariables false
set_option linter.unusedSimpArgs false
set_option linter.all false
namespace Go.Proofs.YtlbckmllpciglaaDoor
open Go Sy
set_option maxRecDepth 100000
-- errata/erratalaw27.VmBatches
def h3 : List (Nat × List (Nat × Tm × Nat)) := [(27, [(0, ⟨[(20, (.dat (.int .i64) (.var 17))), (19, (.sli 920 0 39)), (14, (.sli 560 0 39)), (16, (.sli 648 0 39)), (9, (.dat (.bool) (.var 4))), (2, (.dat (.slice 37) (.var 2))), (12, (.sli 504 0 39)), (17, (.dat (.int .i64) (.var 16))), (15, (.dat (.int .i64) (.var 14))), (13, (.dat (.int .i64) (.var 12))), (18, (.sli 864 0 37)), (1, (.dat (.slice 3) (.var 1))), (4, (.bptr 32 [] 25)), (8, (.dat (.bool) (.bool false)))], [(920, (.arr 39 (.var 18) 0)), (560, (.arr 39 (.var 13) 0)), (648, (.arr 39 (.var 15) 0)), (504, (.arr 39 (.var 11) 0)), (864, (.arr 37 (.var 19) 0)), (32, (.box 25 (.dat (.struct 25) (.var 0))))]⟩, 3), (3, ⟨[(19, (.sli 920 0 39)), (14, (.sli 560 0 39)), (16, (.sli 648 0 39)), (9, (.dat (.bool) (.var 4))), (2, (.dat (.slice 37) (.var 2))), (12, (.sli 504 0 39)), (17, (.dat (.int .i64) (.var 16))), (15, (.dat (.int .i64) (.var 14))), (13, (.dat (.int .i64) (.var 12))), (18, (.sli 864 0 37)), (1, (.dat (.slice 3) (.var 1))), (4, (.bptr 32 [] 25)), (8, (.dat (.bool) (.bool false)))], [(920, (.arr 39 (.var 17) 0)), (560, (.arr 39 (.var 13) 0)), (648, (.arr 39 (.var 15) 0)), (504, (.arr 39 (.var 11) 0)), (864, (.arr 37 (.var 18) 0)), (32, (.box 25 (.dat (.struct 25) (.var 0))))]⟩, 2)])]
def il3 : IL := (.call [] 1 6 [] (.call [] 1 7 [(.var 0), (.var 1), (.var 2)] (.call [((.un .not (.var 5)), false)] 1 7 [(.var 0), (.var 1), (.var 3)] (.call [((.bin .or (.un .not (.var 5)) (.un .not (.var 6))), false)] 1 8 [(.var 1), (.var 2)] (.call [((.bin .or (.bin .or (.un .not (.var 5)) (.un .not (.var 6))) (.un .not (.var 7))), false)] 1 8 [(.var 1), (.var 3)] (.ite (.bin .or (.bin .or (.bin .or (.un .not (.var 5)) (.un .not (.var 6))) (.un .not (.var 7))) (.un .not (.var 8))) (.out 2 [(.var 4)]) (.call [] 2 9 [(.var 0), (.var 1)] (.ite (.un .not (.bin .ieq (.var 10) (.int 0))) (.out 2 [(.var 4)]) (.call [] 2 10 [(.var 0), (.var 1), (.var 2)] (.call [] 2 10 [(.var 0), (.var 1), (.var 3)] (.chk (.bin (.fits 34359738368) (.un .len .lnil) (.un .len (.var 2))) (.chk (.bin (.fits 34359738368) (.un .len (.bin .app .lnil (.var 2))) (.un .len (.var 3))) (.call [] 2 10 [(.var 0), (.var 1), (.bin .app (.bin .app .lnil (.var 2)) (.var 3))] (.bindc (.loop [(.bin (.sub .i64) (.un .len (.var 2)) (.int 1)), .lnil, .lnil] (.ite (.bin .and (.bin .ile (.int 0) (.var 17)) (.bin .ilt (.var 17) (.un .len (.var 11)))) (.chk (.bin .inb (.un .len (.var 2)) (.var 17)) (.chk (.bin (.fits 34359738368) (.un .len (.var 19)) (.un .len (.bin .cons (.un .mkagg (.bin .cons (.un (.fld 0) (.bin .idx (.var 2) (.var 17))) (.bin .cons (.un (.fld 1) (.bin .idx (.var 2) (.var 17))) (.bin .cons (.bin (.add .i64) (.un (.fld 2) (.bin .idx (.var 2) (.var 17))) (.int 7)) .lnil)))) .lnil))) (.chk (.bin .inb (.un .len (.var 11)) (.var 17)) (.chk (.bin (.fits 34359738368) (.un .len (.var 18)) (.un .len (.bin .cons (.bin .idx (.var 11) (.var 17)) .lnil))) (.out 0 [(.bin (.sub .i64) (.var 17) (.int 1)), (.bin .snoc (.var 18) (.bin .idx (.var 11) (.var 17))), (.bin .snoc (.var 19) (.un .mkagg (.bin .cons (.un (.fld 0) (.bin .idx (.var 2) (.var 17))) (.bin .cons (.un (.fld 1) (.bin .idx (.var 2) (.var 17))) (.bin .cons (.bin (.add .i64) (.un (.fld 2) (.bin .idx (.var 2) (.var 17))) (.int 7)) .lnil)))))]))))) (.out 1769478 [(.var 18), (.var 19)]))) 1769478 2 (.call [] 2 10 [(.var 0), (.var 1), (.var 18)] (.ite (.bin .or (.bin .or (.bin .or (.bin .or (.un .not (.bin .ieq (.var 12) (.int 0))) (.un .not (.bin .ieq (.var 14) (.int 0)))) (.un .not (.bin .ieq (.var 16) (.int 0)))) (.un .not (.bin .ieq (.var 20) (.int 0)))) (.un .not (.bin .ieq (.un .len (.var 11)) (.un .len (.var 2))))) (.out 2 [(.bool false)]) (.chk (.tri .ite (.var 4) (.bin (.fits 34359738368) (.un .len .lnil) (.un .len (.var 11))) (.bool true)) (.chk (.tri .ite (.var 4) (.bin (.fits 34359738368) (.un .len (.bin .app .lnil (.var 11))) (.un .len (.var 13))) (.bool true)) (.call [((.var 4), true)] 1 11 [(.var 15), (.bin .app (.bin .app .lnil (.var 11)) (.var 13))] (.call [((.bin .and (.var 4) (.var 21)), true)] 1 11 [(.var 19), (.var 17)] (.out 2 [(.bin .and (.bin .and (.var 4) (.var 21)) (.var 22))])))))))))))))))))))))
theorem d3 : decompF C ⟨[.struct 25, .slice 3, .slice 37, .slice 37], [.bool], [false]⟩ Tryd.f3 h3 = some il3 := by kernel_rfl
theorem e3 (R : Fns) (a0 a1 a2 a3 : D) : den C.G R il3 [a0, a1, a2, a3] =
    ((R 6 []).bind fun r0 =>
    (R 7 [a0, a1, a2]).bind fun r1 =>
    callIf (((!(D.asB (at_ r1 0))) == false) && true) (R 7 [a0, a1, a3]) fun r2 =>
    callIf ((((!(D.asB (at_ r1 0))) || (!(D.asB (at_ r2 0)))) == false) && true) (R 8 [a1, a2]) fun r3 =>
    callIf (((((!(D.asB (at_ r1 0))) || (!(D.asB (at_ r2 0)))) || (!(D.asB (at_ r3 0)))) == false) && true) (R 8 [a1, a3]) fun r4 =>
    if ((((!(D.asB (at_ r1 0))) || (!(D.asB (at_ r2 0)))) || (!(D.asB (at_ r3 0)))) || (!(D.asB (at_ r4 0)))) then
      some (2, [(at_ r0 0)])
    else
      (R 9 [a0, a1]).bind fun r5 =>
      if (!((D.asI (at_ r5 1)) == (0 : Int))) then
        some (2, [(at_ r0 0)])
      else
        (R 10 [a0, a1, a2]).bind fun r6 =>
        (R 10 [a0, a1, a3]).bind fun r7 =>
        if (D.asB (U2.ev (.fits 34359738368) (D.int ((([] : List D)).length : Int)) (D.int (((D.asL a2)).length : Int)))) then
        if (D.asB (U2.ev (.fits 34359738368) (D.int (((([] : List D) ++ (D.asL a2))).length : Int)) (D.int (((D.asL a3)).length : Int)))) then
        (R 10 [a0, a1, (D.list ((([] : List D) ++ (D.asL a2)) ++ (D.asL a3)))]).bind fun r8 =>
        (loopL (fun s10 =>
            if ((decide ((0 : Int) ≤ (D.asI (at_ s10 0)))) && (decide ((D.asI (at_ s10 0)) < (((D.asL (at_ r6 0))).length : Int)))) then
              if (decide (0 ≤ (D.asI (at_ s10 0)) ∧ (D.asI (at_ s10 0)) < (((D.asL a2)).length : Int))) then
              if (D.asB (U2.ev (.fits 34359738368) (D.int (((D.asL (at_ s10 2))).length : Int)) (D.int ((((D.agg ((at_ (D.asA (at_ (D.asL a2) (Int.toNat (D.asI (at_ s10 0))))) 0) :: ((at_ (D.asA (at_ (D.asL a2) (Int.toNat (D.asI (at_ s10 0))))) 1) :: ((D.int (IntKind.wrap .i64 ((D.asI (at_ (D.asA (at_ (D.asL a2) (Int.toNat (D.asI (at_ s10 0))))) 2)) + (7 : Int)))) :: ([] : List D))))) :: ([] : List D))).length : Int)))) then
              if (decide (0 ≤ (D.asI (at_ s10 0)) ∧ (D.asI (at_ s10 0)) < (((D.asL (at_ r6 0))).length : Int))) then
              if (D.asB (U2.ev (.fits 34359738368) (D.int (((D.asL (at_ s10 1))).length : Int)) (D.int ((((at_ (D.asL (at_ r6 0)) (Int.toNat (D.asI (at_ s10 0)))) :: ([] : List D))).length : Int)))) then
              some (0, [(D.int (IntKind.wrap .i64 ((D.asI (at_ s10 0)) - (1 : Int)))), (D.list ((D.asL (at_ s10 1)) ++ [(at_ (D.asL (at_ r6 0)) (Int.toNat (D.asI (at_ s10 0))))])), (D.list ((D.asL (at_ s10 2)) ++ [(D.agg ((at_ (D.asA (at_ (D.asL a2) (Int.toNat (D.asI (at_ s10 0))))) 0) :: ((at_ (D.asA (at_ (D.asL a2) (Int.toNat (D.asI (at_ s10 0))))) 1) :: ((D.int (IntKind.wrap .i64 ((D.asI (at_ (D.asA (at_ (D.asL a2) (Int.toNat (D.asI (at_ s10 0))))) 2)) + (7 : Int)))) :: ([] : List D)))))]))])
              else none
              else none
              else none
              else none
            else
              some (1769478, [(at_ s10 1), (at_ s10 2)])) [(D.int (IntKind.wrap .i64 ((((D.asL a2)).length : Int) - (1 : Int)))), (D.list []), (D.list [])]).bind fun o9 =>
        if o9.1 = 1769478 then
          (R 10 [a0, a1, (at_ o9.2 1)]).bind fun r10 =>
          if (((((!((D.asI (at_ r6 1)) == (0 : Int))) || (!((D.asI (at_ r7 1)) == (0 : Int)))) || (!((D.asI (at_ r8 1)) == (0 : Int)))) || (!((D.asI (at_ r10 1)) == (0 : Int)))) || (!((((D.asL (at_ r6 0))).length : Int) == (((D.asL a2)).length : Int)))) then
            some (2, [(D.bool false)])
          else
            if (D.asB (if (D.asB (at_ r0 0)) then (D.bool (D.asB (U2.ev (.fits 34359738368) (D.int ((([] : List D)).length : Int)) (D.int (((D.asL (at_ r6 0))).length : Int))))) else (D.bool true))) then
            if (D.asB (if (D.asB (at_ r0 0)) then (D.bool (D.asB (U2.ev (.fits 34359738368) (D.int (((([] : List D) ++ (D.asL (at_ r6 0)))).length : Int)) (D.int (((D.asL (at_ r7 0))).length : Int))))) else (D.bool true))) then
            callIf (((D.asB (at_ r0 0)) == true) && true) (R 11 [(at_ r8 0), (D.list ((([] : List D) ++ (D.asL (at_ r6 0))) ++ (D.asL (at_ r7 0))))]) fun r11 =>
            callIf ((((D.asB (at_ r0 0)) && (D.asB (at_ r11 0))) == true) && true) (R 11 [(at_ r10 0), (at_ o9.2 0)]) fun r12 =>
            some (2, [(D.bool (((D.asB (at_ r0 0)) && (D.asB (at_ r11 0))) && (D.asB (at_ r12 0))))])
            else none
            else none
        else some o9
        else none
        else none : Option Out) := by kernel_rfl
-- errata/errataref27.Run
def h12 : List (Nat × List (Nat × Tm × Nat)) := [(17, [(0, ⟨[(3, (.bptr 24 [] 25)), (2, (.dat (.slice 37) (.var 2))), (11, (.dat (.int .i64) (.var 6))), (10, (.sli 360 0 39)), (7, (.dat (.int .i64) (.int 0))), (6, (.nils 39))], [(24, (.box 25 (.dat (.struct 25) (.var 0)))), (360, (.arr 39 (.var 7) 0))]⟩, 2), (3, ⟨[(10, (.sli 360 0 39)), (7, (.dat (.int .i64) (.int 0))), (6, (.nils 39))], [(360, (.arr 39 (.var 6) 0))]⟩, 1)])]
def il12 : IL := (.call [] 2 30 [(.var 0), (.var 1)] (.ite (.un .not (.bin .ieq (.var 4) (.int 0))) (.out 2 [.lnil, (.var 4)]) (.call [] 1 8 [(.var 1), (.var 2)] (.ite (.un .not (.var 5)) (.out 2 [.lnil, (.int 16)]) (.bindc (.loop [(.int 0), .lnil] (.ite (.bin .ilt (.var 6) (.un .len (.var 2))) (.chk (.bin .inb (.un .len (.var 2)) (.var 6)) (.chk (.bin .inb (.un .len (.var 2)) (.var 6)) (.call [] 1 31 [(.var 0), (.un (.fld 0) (.bin .idx (.var 2) (.var 6))), (.un (.fld 1) (.bin .idx (.var 2) (.var 6)))] (.chk (.bin (.fits 34359738368) (.un .len (.var 7)) (.un .len (.bin .cons (.var 8) .lnil))) (.out 0 [(.bin (.add .i64) (.var 6) (.int 1)), (.bin .snoc (.var 7) (.var 8))]))))) (.out 1114118 [(.var 7)]))) 1114118 1 (.out 2 [(.var 6), (.int 0)]))))))
theorem d12 : decompF C ⟨[.struct 25, .slice 3, .slice 37], [.slice 39, .int .i64], [true, false]⟩ Tryd.f12 h12 = some il12 := by kernel_rfl
theorem e12 (R : Fns) (a0 a1 a2 : D) : den C.G R il12 [a0, a1, a2] =
    ((R 30 [a0, a1]).bind fun r0 =>
    if (!((D.asI (at_ r0 1)) == (0 : Int))) then
      some (2, [(D.list []), (at_ r0 1)])
    else
      (R 8 [a1, a2]).bind fun r1 =>
      if (!(D.asB (at_ r1 0))) then
        some (2, [(D.list []), (D.int 16)])
      else
        (loopL (fun s3 =>
            if (decide ((D.asI (at_ s3 0)) < (((D.asL a2)).length : Int))) then
              if (decide (0 ≤ (D.asI (at_ s3 0)) ∧ (D.asI (at_ s3 0)) < (((D.asL a2)).length : Int))) then
              if (decide (0 ≤ (D.asI (at_ s3 0)) ∧ (D.asI (at_ s3 0)) < (((D.asL a2)).length : Int))) then
              (R 31 [a0, (at_ (D.asA (at_ (D.asL a2) (Int.toNat (D.asI (at_ s3 0))))) 0), (at_ (D.asA (at_ (D.asL a2) (Int.toNat (D.asI (at_ s3 0))))) 1)]).bind fun r4 =>
              if (D.asB (U2.ev (.fits 34359738368) (D.int (((D.asL (at_ s3 1))).length : Int)) (D.int ((((at_ r4 0) :: ([] : List D))).length : Int)))) then
              some (0, [(D.int (IntKind.wrap .i64 ((D.asI (at_ s3 0)) + (1 : Int)))), (D.list ((D.asL (at_ s3 1)) ++ [(at_ r4 0)]))])
              else none
              else none
              else none
            else
              some (1114118, [(at_ s3 1)])) [(D.int 0), (D.list [])]).bind fun o2 =>
        if o2.1 = 1114118 then
          some (2, [(at_ o2.2 0), (D.int 0)])
        else some o2 : Option Out) := by kernel_rfl
-- errata/errataref27.Project
def h17 : List (Nat × List (Nat × Tm × Nat)) := [(27, [(0, ⟨[(0, (.dat (.slice 25) (.var 0))), (2, (.dat (.slice 37) (.var 2))), (12, (.dat (.int .i64) (.var 4))), (11, (.sli 728 0 37)), (7, (.dat (.int .i64) (.int 0))), (6, (.nils 37))], [(728, (.arr 37 (.var 5) 0))]⟩, 2), (5, ⟨[(11, (.sli 728 0 37)), (7, (.dat (.int .i64) (.int 0))), (6, (.nils 37))], [(728, (.arr 37 (.var 4) 0))]⟩, 1)]), (35, [(0, ⟨[(0, (.dat (.slice 25) (.var 0))), (14, (.dat (.int .i64) (.var 6))), (61, (.agg 37 [(.dat (.int .i64) (.un (.fld 0) (.bin .idx (.var 2) (.var 4)))), (.nils 39), (.dat (.int .i64) (.un (.fld 2) (.bin .idx (.var 2) (.var 4))))])), (13, (.bptr 104 [] 37)), (60, (.dat (.int .i64) (.un (.fld 2) (.bin .idx (.var 2) (.var 4))))), (55, (.dat (.int .i64) (.un (.fld 0) (.bin .idx (.var 2) (.var 4))))), (59, (.dat (.ptr 3) (.un .mkptr (.un (.fld 2) (.bin .idx (.var 2) (.var 4)))))), (58, (.dat (.ptr 37) (.un .mkptr (.bin .idx (.var 2) (.var 4))))), (57, (.dat (.int .i64) (.var 4))), (56, (.dat (.slice 37) (.var 2))), (54, (.dat (.ptr 3) (.un .mkptr (.un (.fld 0) (.bin .idx (.var 2) (.var 4)))))), (53, (.dat (.ptr 37) (.un .mkptr (.bin .idx (.var 2) (.var 4))))), (52, (.dat (.int .i64) (.var 4))), (51, (.dat (.slice 37) (.var 2))), (48, (.dat (.bool) (.bin .ilt (.var 4) (.un .len (.var 2))))), (47, (.dat (.int .i64) (.un .len (.var 2)))), (45, (.dat (.int .i64) (.var 4))), (46, (.dat (.slice 37) (.var 2))), (2, (.dat (.slice 37) (.var 2))), (12, (.dat (.int .i64) (.var 4))), (11, (.sli 728 0 37)), (7, (.dat (.int .i64) (.int 0))), (6, (.nils 37))], [(104, (.box 37 (.agg 37 [(.dat (.int .i64) (.un (.fld 0) (.bin .idx (.var 2) (.var 4)))), (.sli 688 0 39), (.dat (.int .i64) (.un (.fld 2) (.bin .idx (.var 2) (.var 4))))]))), (688, (.arr 39 (.var 7) 0)), (728, (.arr 37 (.var 5) 0))]⟩, 2), (7, ⟨[(65, (.dat (.bool) (.var 6))), (64, (.dat (.int .i64) (.un .len (.var 0)))), (62, (.dat (.int .i64) (.var 7))), (63, (.dat (.slice 25) (.var 0))), (0, (.dat (.slice 25) (.var 0))), (14, (.dat (.int .i64) (.var 8))), (61, (.agg 37 [(.dat (.int .i64) (.un (.fld 0) (.bin .idx (.var 2) (.var 4)))), (.nils 39), (.dat (.int .i64) (.un (.fld 2) (.bin .idx (.var 2) (.var 4))))])), (13, (.bptr 104 [] 37)), (60, (.dat (.int .i64) (.un (.fld 2) (.bin .idx (.var 2) (.var 4))))), (55, (.dat (.int .i64) (.un (.fld 0) (.bin .idx (.var 2) (.var 4))))), (59, (.dat (.ptr 3) (.un .mkptr (.un (.fld 2) (.bin .idx (.var 2) (.var 4)))))), (58, (.dat (.ptr 37) (.un .mkptr (.bin .idx (.var 2) (.var 4))))), (57, (.dat (.int .i64) (.var 4))), (56, (.dat (.slice 37) (.var 2))), (54, (.dat (.ptr 3) (.un .mkptr (.un (.fld 0) (.bin .idx (.var 2) (.var 4)))))), (53, (.dat (.ptr 37) (.un .mkptr (.bin .idx (.var 2) (.var 4))))), (52, (.dat (.int .i64) (.var 4))), (51, (.dat (.slice 37) (.var 2))), (48, (.dat (.bool) (.bin .ilt (.var 4) (.un .len (.var 2))))), (47, (.dat (.int .i64) (.un .len (.var 2)))), (45, (.dat (.int .i64) (.var 4))), (46, (.dat (.slice 37) (.var 2))), (2, (.dat (.slice 37) (.var 2))), (12, (.dat (.int .i64) (.var 4))), (11, (.sli 728 0 37)), (7, (.dat (.int .i64) (.int 0))), (6, (.nils 37))], [(104, (.box 37 (.agg 37 [(.dat (.int .i64) (.un (.fld 0) (.bin .idx (.var 2) (.var 4)))), (.sli 688 0 39), (.dat (.int .i64) (.un (.fld 2) (.bin .idx (.var 2) (.var 4))))]))), (688, (.arr 39 (.var 9) 0)), (728, (.arr 37 (.var 5) 0))]⟩, 4)]), (9, [(0, ⟨[(8, (.dat (.int .i64) (.var 3))), (0, (.dat (.slice 25) (.var 0))), (2, (.dat (.slice 37) (.var 2))), (1, (.dat (.slice 3) (.var 1))), (7, (.dat (.int .i64) (.int 0))), (6, (.nils 37))], []⟩, 1), (3, ⟨[(0, (.dat (.slice 25) (.var 0))), (2, (.dat (.slice 37) (.var 2))), (1, (.dat (.slice 3) (.var 1))), (7, (.dat (.int .i64) (.int 0))), (6, (.nils 37))], []⟩, 0)])]
def il17 : IL := (.ite (.bin .or (.bin .ilt (.un .len (.var 0)) (.int 1)) (.bin .ilt (.int 12) (.un .len (.var 0)))) (.out 2 [.lnil, (.int 1)]) (.bindc (.loop [(.int 0)] (.ite (.bin .ilt (.var 3) (.un .len (.var 0))) (.chk (.bin .inb (.un .len (.var 0)) (.var 3)) (.call [] 2 30 [(.bin .idx (.var 0) (.var 3)), (.var 1)] (.ite (.un .not (.bin .ieq (.var 5) (.int 0))) (.out 2 [.lnil, (.var 5)]) (.out 0 [(.bin (.add .i64) (.var 3) (.int 1))])))) (.out 589830 []))) 589830 0 (.call [] 1 8 [(.var 1), (.var 2)] (.ite (.un .not (.var 3)) (.out 2 [.lnil, (.int 16)]) (.bindc (.loop [(.int 0), .lnil] (.ite (.bin .ilt (.var 4) (.un .len (.var 2))) (.chk (.bin .inb (.un .len (.var 2)) (.var 4)) (.chk (.bin .inb (.un .len (.var 2)) (.var 4)) (.bindc (.loop [(.int 0), .lnil] (.ite (.bin .ilt (.var 6) (.un .len (.var 0))) (.chk (.bin .inb (.un .len (.var 0)) (.var 6)) (.chk (.bin .inb (.un .len (.var 2)) (.var 4)) (.chk (.bin .inb (.un .len (.var 2)) (.var 4)) (.call [] 1 31 [(.bin .idx (.var 0) (.var 6)), (.un (.fld 0) (.bin .idx (.var 2) (.var 4))), (.un (.fld 1) (.bin .idx (.var 2) (.var 4)))] (.chk (.bin (.fits 34359738368) (.un .len (.var 7)) (.un .len (.bin .cons (.var 8) .lnil))) (.out 0 [(.bin (.add .i64) (.var 6) (.int 1)), (.bin .snoc (.var 7) (.var 8))])))))) (.out 2293770 [(.bin .ilt (.var 6) (.un .len (.var 0))), (.var 6), (.var 6), (.var 7)]))) 2293770 4 (.chk (.bin (.fits 34359738368) (.un .len (.var 5)) (.un .len (.bin .cons (.un .mkagg (.bin .cons (.un (.fld 0) (.bin .idx (.var 2) (.var 4))) (.bin .cons (.var 9) (.bin .cons (.un (.fld 2) (.bin .idx (.var 2) (.var 4))) .lnil)))) .lnil))) (.out 0 [(.bin (.add .i64) (.var 4) (.int 1)), (.bin .snoc (.var 5) (.un .mkagg (.bin .cons (.un (.fld 0) (.bin .idx (.var 2) (.var 4))) (.bin .cons (.var 9) (.bin .cons (.un (.fld 2) (.bin .idx (.var 2) (.var 4))) .lnil)))))]))))) (.out 1769480 [(.var 5)]))) 1769480 1 (.out 2 [(.var 4), (.int 0)]))))))
theorem d17 : decompF C ⟨[.slice 25, .slice 3, .slice 37], [.slice 37, .int .i64], [true, false]⟩ Tryd.f17 h17 = some il17 := by kernel_rfl
theorem e17 (R : Fns) (a0 a1 a2 : D) : den C.G R il17 [a0, a1, a2] =
    (if ((decide ((((D.asL a0)).length : Int) < (1 : Int))) || (decide ((12 : Int) < (((D.asL a0)).length : Int)))) then
      some (2, [(D.list []), (D.int 1)])
    else
      (loopL (fun s1 =>
          if (decide ((D.asI (at_ s1 0)) < (((D.asL a0)).length : Int))) then
            if (decide (0 ≤ (D.asI (at_ s1 0)) ∧ (D.asI (at_ s1 0)) < (((D.asL a0)).length : Int))) then
            (R 30 [(at_ (D.asL a0) (Int.toNat (D.asI (at_ s1 0)))), a1]).bind fun r2 =>
            if (!((D.asI (at_ r2 1)) == (0 : Int))) then
              some (2, [(D.list []), (at_ r2 1)])
            else
              some (0, [(D.int (IntKind.wrap .i64 ((D.asI (at_ s1 0)) + (1 : Int))))])
            else none
          else
            some (589830, [])) [(D.int 0)]).bind fun o0 =>
      if o0.1 = 589830 then
        (R 8 [a1, a2]).bind fun r1 =>
        if (!(D.asB (at_ r1 0))) then
          some (2, [(D.list []), (D.int 16)])
        else
          (loopL (fun s3 =>
              if (decide ((D.asI (at_ s3 0)) < (((D.asL a2)).length : Int))) then
                if (decide (0 ≤ (D.asI (at_ s3 0)) ∧ (D.asI (at_ s3 0)) < (((D.asL a2)).length : Int))) then
                if (decide (0 ≤ (D.asI (at_ s3 0)) ∧ (D.asI (at_ s3 0)) < (((D.asL a2)).length : Int))) then
                (loopL (fun s5 =>
                    if (decide ((D.asI (at_ s5 0)) < (((D.asL a0)).length : Int))) then
                      if (decide (0 ≤ (D.asI (at_ s5 0)) ∧ (D.asI (at_ s5 0)) < (((D.asL a0)).length : Int))) then
                      if (decide (0 ≤ (D.asI (at_ s3 0)) ∧ (D.asI (at_ s3 0)) < (((D.asL a2)).length : Int))) then
                      if (decide (0 ≤ (D.asI (at_ s3 0)) ∧ (D.asI (at_ s3 0)) < (((D.asL a2)).length : Int))) then
                      (R 31 [(at_ (D.asL a0) (Int.toNat (D.asI (at_ s5 0)))), (at_ (D.asA (at_ (D.asL a2) (Int.toNat (D.asI (at_ s3 0))))) 0), (at_ (D.asA (at_ (D.asL a2) (Int.toNat (D.asI (at_ s3 0))))) 1)]).bind fun r6 =>
                      if (D.asB (U2.ev (.fits 34359738368) (D.int (((D.asL (at_ s5 1))).length : Int)) (D.int ((((at_ r6 0) :: ([] : List D))).length : Int)))) then
                      some (0, [(D.int (IntKind.wrap .i64 ((D.asI (at_ s5 0)) + (1 : Int)))), (D.list ((D.asL (at_ s5 1)) ++ [(at_ r6 0)]))])
                      else none
                      else none
                      else none
                      else none
                    else
                      some (2293770, [(D.bool (decide ((D.asI (at_ s5 0)) < (((D.asL a0)).length : Int)))), (at_ s5 0), (at_ s5 0), (at_ s5 1)])) [(D.int 0), (D.list [])]).bind fun o4 =>
                if o4.1 = 2293770 then
                  if (D.asB (U2.ev (.fits 34359738368) (D.int (((D.asL (at_ s3 1))).length : Int)) (D.int ((((D.agg ((at_ (D.asA (at_ (D.asL a2) (Int.toNat (D.asI (at_ s3 0))))) 0) :: ((at_ o4.2 3) :: ((at_ (D.asA (at_ (D.asL a2) (Int.toNat (D.asI (at_ s3 0))))) 2) :: ([] : List D))))) :: ([] : List D))).length : Int)))) then
                  some (0, [(D.int (IntKind.wrap .i64 ((D.asI (at_ s3 0)) + (1 : Int)))), (D.list ((D.asL (at_ s3 1)) ++ [(D.agg ((at_ (D.asA (at_ (D.asL a2) (Int.toNat (D.asI (at_ s3 0))))) 0) :: ((at_ o4.2 3) :: ((at_ (D.asA (at_ (D.asL a2) (Int.toNat (D.asI (at_ s3 0))))) 2) :: ([] : List D)))))]))])
                  else none
                else some o4
                else none
                else none
              else
                some (1769480, [(at_ s3 1)])) [(D.int 0), (D.list [])]).bind fun o2 =>
          if o2.1 = 1769480 then
            some (2, [(at_ o2.2 0), (D.int 0)])
          else some o2
      else some o0 : Option Out) := by kernel_rfl
-- errata/errataref03.Short
def h22 : List (Nat × List (Nat × Tm × Nat)) := [(5, [(0, ⟨[(5, (.dat (.int .i64) (.var 2))), (1, (.dat (.int .i64) (.var 1))), (0, (.dat (.slice 39) (.var 0))), (4, (.dat (.bool) (.bool false)))], []⟩, 1), (3, ⟨[(1, (.dat (.int .i64) (.var 1))), (0, (.dat (.slice 39) (.var 0))), (4, (.dat (.bool) (.bool false)))], []⟩, 0)])]
def il22 : IL := (.bindc (.loop [(.int 0)] (.ite (.bin .ilt (.var 2) (.un .len (.var 0))) (.chk (.bin .inb (.un .len (.var 0)) (.var 2)) (.ite (.bin .ilt (.int 300) (.un .slen (.un (.fld 2) (.bin .idx (.var 0) (.var 2))))) (.out 2 [(.bool false)]) (.out 0 [(.bin (.add .i64) (.var 2) (.int 1))]))) (.out 327686 []))) 327686 0 (.out 2 [(.bin .ile (.un .len (.var 0)) (.var 1))]))
theorem d22 : decompF C ⟨[.slice 39, .int .i64], [.bool], [false]⟩ Tryd.f22 h22 = some il22 := by kernel_rfl
theorem e22 (R : Fns) (a0 a1 : D) : den C.G R il22 [a0, a1] =
    ((loopL (fun s1 =>
        if (decide ((D.asI (at_ s1 0)) < (((D.asL a0)).length : Int))) then
          if (decide (0 ≤ (D.asI (at_ s1 0)) ∧ (D.asI (at_ s1 0)) < (((D.asL a0)).length : Int))) then
          if (decide ((300 : Int) < (((D.asS (at_ (D.asA (at_ (D.asL a0) (Int.toNat (D.asI (at_ s1 0))))) 2))).length : Int))) then
            some (2, [(D.bool false)])
          else
            some (0, [(D.int (IntKind.wrap .i64 ((D.asI (at_ s1 0)) + (1 : Int))))])
          else none
        else
          some (327686, [])) [(D.int 0)]).bind fun o0 =>
    if o0.1 = 327686 then
      some (2, [(D.bool (decide ((((D.asL a0)).length : Int) ≤ (D.asI a1))))])
    else some o0 : Option Out) := by kernel_rfl
-- errata/errataref03.RightRow
def h23 : List (Nat × List (Nat × Tm × Nat)) := []
def il23 : IL := (.call [((.bin .ile (.un .len (.var 0)) (.int 12)), true)] 1 36 [(.var 0)] (.out 2 [(.bin .and (.bin .ile (.un .len (.var 0)) (.int 12)) (.var 1))]))
theorem d23 : decompF C ⟨[.slice 39], [.bool], [false]⟩ Tryd.f23 h23 = some il23 := by kernel_rfl
theorem e23 (R : Fns) (a0 : D) : den C.G R il23 [a0] =
    (callIf (((decide ((((D.asL a0)).length : Int) ≤ (12 : Int))) == true) && true) (R 36 [a0]) fun r0 =>
    some (2, [(D.bool ((decide ((((D.asL a0)).length : Int) ≤ (12 : Int))) && (D.asB (at_ r0 0))))]) : Option Out) := by kernel_rfl
-- errata/vm.run
def h28 : List (Nat × List (Nat × Tm × Nat)) := [(9, [(0, ⟨[(6, (.tab 82 [(.fnc 43 [(.bptr 120 [] 81)] []), (.fnc 44 [(.bptr 120 [] 81)] []), (.fnc 45 [(.bptr 120 [] 81)] []), (.fnc 46 [(.bptr 120 [] 81)] [])])), (26, (.dat (.slice 52) (.un (.fld 0) (.var 0)))), (27, (.dat (.int .i64) (.un .len (.un (.fld 0) (.var 0))))), (28, (.dat (.int .i64) (.var 2))), (2, (.bptr 16 [] 25)), (5, (.bptr 120 [] 81)), (4, (.nils 39))], [(120, (.box 81 (.agg 81 [(.dat (.slice 37) (.var 1)), (.sli 104 0 33)]))), (104, (.arr 33 (.var 3) 0)), (16, (.box 25 (.dat (.struct 25) (.var 0))))]⟩, 2), (3, ⟨[(2, (.bptr 16 [] 25)), (5, (.bptr 120 [] 81)), (4, (.nils 39))], [(16, (.box 25 (.dat (.struct 25) (.var 0)))), (120, (.box 81 (.agg 81 [(.dat (.slice 37) (.var 1)), (.sli 104 0 33)]))), (104, (.arr 33 (.var 2) 0))]⟩, 1)])]
def il28 : IL := (.chk (.bin (.ble 34359738368) (.un .len (.un (.fld 1) (.var 0))) (.un .len (.un (.fld 1) (.var 0)))) (.bindc (.loop [(.int 0), (.bin .rep (.un .len (.un (.fld 1) (.var 0))) .lnil)] (.ite (.bin .ilt (.var 2) (.un .len (.un (.fld 0) (.var 0)))) (.chk (.bin .inb (.un .len (.un (.fld 0) (.var 0))) (.var 2)) (.call [] 1 39 [(.bin .idx (.un (.fld 0) (.var 0)) (.var 2))] (.chk (.bin .inb (.int 4) (.un .len (.var 4))) (.callv [] 1 (.bin .idx (.bin .cons (.fn 43 (.bin .cons (.un .mkptr (.un .mkagg (.bin .cons (.var 1) (.bin .cons (.var 3) .lnil)))) .lnil) .lnil) (.bin .cons (.fn 44 (.bin .cons (.un .mkptr (.un .mkagg (.bin .cons (.var 1) (.bin .cons (.var 3) .lnil)))) .lnil) .lnil) (.bin .cons (.fn 45 (.bin .cons (.un .mkptr (.un .mkagg (.bin .cons (.var 1) (.bin .cons (.var 3) .lnil)))) .lnil) .lnil) (.bin .cons (.fn 46 (.bin .cons (.un .mkptr (.un .mkagg (.bin .cons (.var 1) (.bin .cons (.var 3) .lnil)))) .lnil) .lnil) .lnil)))) (.un .len (.var 4))) [(.bin .idx (.un (.fld 0) (.var 0)) (.var 2))] (.chk (.bin .inb (.un .len (.var 3)) (.un (.fld 1) (.bin .idx (.un (.fld 0) (.var 0)) (.var 2)))) (.out 0 [(.bin (.add .i64) (.var 2) (.int 1)), (.tri .set (.var 3) (.un (.fld 1) (.bin .idx (.un (.fld 0) (.var 0)) (.var 2))) (.var 5))])))))) (.out 589830 [(.var 3)]))) 589830 1 (.chk (.bin .inb (.un .len (.var 2)) (.un (.fld 2) (.var 0))) (.call [] 1 32 [(.bin .idx (.var 2) (.un (.fld 2) (.var 0)))] (.out 2 [(.var 3)])))))
theorem d28 : decompF C ⟨[.struct 25, .slice 37], [.slice 39], [true]⟩ Tryd.f28 h28 = some il28 := by kernel_rfl
theorem e28 (R : Fns) (a0 a1 : D) : den C.G R il28 [a0, a1] =
    (if (D.asB (U2.ev (.ble 34359738368) (D.int (((D.asL (at_ (D.asA a0) 1))).length : Int)) (D.int (((D.asL (at_ (D.asA a0) 1))).length : Int)))) then
    (loopL (fun s1 =>
        if (decide ((D.asI (at_ s1 0)) < (((D.asL (at_ (D.asA a0) 0))).length : Int))) then
          if (decide (0 ≤ (D.asI (at_ s1 0)) ∧ (D.asI (at_ s1 0)) < (((D.asL (at_ (D.asA a0) 0))).length : Int))) then
          (R 39 [(at_ (D.asL (at_ (D.asA a0) 0)) (Int.toNat (D.asI (at_ s1 0))))]).bind fun r2 =>
          if (decide (0 ≤ (((D.asL (at_ r2 0))).length : Int) ∧ (((D.asL (at_ r2 0))).length : Int) < (4 : Int))) then
          (callD R (at_ ((D.fn 43 ((D.ptr (D.agg (a1 :: ((at_ s1 1) :: ([] : List D))))) :: ([] : List D)) ([] : List D)) :: ((D.fn 44 ((D.ptr (D.agg (a1 :: ((at_ s1 1) :: ([] : List D))))) :: ([] : List D)) ([] : List D)) :: ((D.fn 45 ((D.ptr (D.agg (a1 :: ((at_ s1 1) :: ([] : List D))))) :: ([] : List D)) ([] : List D)) :: ((D.fn 46 ((D.ptr (D.agg (a1 :: ((at_ s1 1) :: ([] : List D))))) :: ([] : List D)) ([] : List D)) :: ([] : List D))))) (Int.toNat (((D.asL (at_ r2 0))).length : Int))) [(at_ (D.asL (at_ (D.asA a0) 0)) (Int.toNat (D.asI (at_ s1 0))))]).bind fun r3 =>
          if (decide (0 ≤ (D.asI (at_ (D.asA (at_ (D.asL (at_ (D.asA a0) 0)) (Int.toNat (D.asI (at_ s1 0))))) 1)) ∧ (D.asI (at_ (D.asA (at_ (D.asL (at_ (D.asA a0) 0)) (Int.toNat (D.asI (at_ s1 0))))) 1)) < (((D.asL (at_ s1 1))).length : Int))) then
          some (0, [(D.int (IntKind.wrap .i64 ((D.asI (at_ s1 0)) + (1 : Int)))), (D.list (((D.asL (at_ s1 1))).set (Int.toNat (D.asI (at_ (D.asA (at_ (D.asL (at_ (D.asA a0) 0)) (Int.toNat (D.asI (at_ s1 0))))) 1))) (at_ r3 0)))])
          else none
          else none
          else none
        else
          some (589830, [(at_ s1 1)])) [(D.int 0), (D.list (List.replicate (Int.toNat (((D.asL (at_ (D.asA a0) 1))).length : Int)) (D.list [])))]).bind fun o0 =>
    if o0.1 = 589830 then
      if (decide (0 ≤ (D.asI (at_ (D.asA a0) 2)) ∧ (D.asI (at_ (D.asA a0) 2)) < (((D.asL (at_ o0.2 0))).length : Int))) then
      (R 32 [(at_ (D.asL (at_ o0.2 0)) (Int.toNat (D.asI (at_ (D.asA a0) 2))))]).bind fun r1 =>
      some (2, [(at_ r1 0)])
      else none
    else some o0
    else none : Option Out) := by kernel_rfl
-- errata/code.Needed
def h34 : List (Nat × List (Nat × Tm × Nat)) := [(11, [(0, ⟨[(3, (.sli 88 0 23)), (6, (.dat (.int .i64) (.var 3))), (5, (.sli 136 0 4)), (2, (.nils 4))], [(88, (.arr 23 (.var 1) 0)), (136, (.arr 4 (.var 4) 0))]⟩, 2), (3, ⟨[(5, (.sli 136 0 4)), (2, (.nils 4))], [(136, (.arr 4 (.var 3) 0))]⟩, 1)]), (12, [(1, ⟨[(3, (.sli 88 0 23)), (33, (.dat (.bool) (.un .not (.bin .idx (.var 4) (.var 3))))), (32, (.dat (.bool) (.bin .idx (.var 4) (.var 3)))), (30, (.dat (.int .i64) (.var 3))), (29, (.sli 136 0 4)), (26, (.dat (.bool) (.bin .ile (.int 0) (.var 3)))), (25, (.dat (.int .i64) (.var 3))), (6, (.dat (.int .i64) (.var 3))), (5, (.sli 136 0 4)), (2, (.nils 4))], [(88, (.arr 23 (.var 1) 0)), (136, (.arr 4 (.var 5) 0))]⟩, 1)]), (19, [(0, ⟨[(38, (.dat (.int .i64) (.un .len (.bin .idx (.var 1) (.var 3))))), (39, (.dat (.int .i64) (.var 5))), (37, (.dat (.slice 3) (.bin .idx (.var 1) (.var 3)))), (35, (.dat (.int .i64) (.var 3))), (34, (.sli 88 0 23)), (3, (.sli 88 0 23)), (33, (.dat (.bool) (.un .not (.bin .idx (.var 4) (.var 3))))), (32, (.dat (.bool) (.bin .idx (.var 4) (.var 3)))), (30, (.dat (.int .i64) (.var 3))), (29, (.sli 136 0 4)), (26, (.dat (.bool) (.bin .ile (.int 0) (.var 3)))), (25, (.dat (.int .i64) (.var 3))), (6, (.dat (.int .i64) (.var 3))), (5, (.sli 136 0 4)), (2, (.nils 4))], [(88, (.arr 23 (.var 1) 0)), (136, (.arr 4 (.var 6) 0))]⟩, 2), (5, ⟨[(40, (.dat (.bool) (.var 5))), (38, (.dat (.int .i64) (.un .len (.bin .idx (.var 1) (.var 3))))), (39, (.dat (.int .i64) (.var 6))), (37, (.dat (.slice 3) (.bin .idx (.var 1) (.var 3)))), (35, (.dat (.int .i64) (.var 3))), (34, (.sli 88 0 23)), (3, (.sli 88 0 23)), (33, (.dat (.bool) (.un .not (.bin .idx (.var 4) (.var 3))))), (32, (.dat (.bool) (.bin .idx (.var 4) (.var 3)))), (30, (.dat (.int .i64) (.var 3))), (29, (.sli 136 0 4)), (26, (.dat (.bool) (.bin .ile (.int 0) (.var 3)))), (25, (.dat (.int .i64) (.var 3))), (6, (.dat (.int .i64) (.var 3))), (5, (.sli 136 0 4)), (2, (.nils 4))], [(88, (.arr 23 (.var 1) 0)), (136, (.arr 4 (.var 7) 0))]⟩, 3)])]
def il34 : IL := (.call [] 2 35 [(.var 0)] (.chk (.bin (.ble 34359738368) (.un .len (.un (.fld 0) (.var 0))) (.un .len (.un (.fld 0) (.var 0)))) (.chk (.bin .inb (.un .len (.bin .rep (.un .len (.un (.fld 0) (.var 0))) (.bool false))) (.var 2)) (.bindc (.loop [(.bin (.sub .i64) (.un .len (.un (.fld 0) (.var 0))) (.int 1)), (.tri .set (.bin .rep (.un .len (.un (.fld 0) (.var 0))) (.bool false)) (.var 2) (.bool true))] (.ite (.bin .ile (.int 0) (.var 3)) (.bindc (.chk (.bin .inb (.un .len (.var 4)) (.var 3)) (.ite (.un .not (.bin .idx (.var 4) (.var 3))) (.out 786436 [(.var 4)]) (.chk (.bin .inb (.un .len (.var 1)) (.var 3)) (.bindc (.loop [(.int 0), (.var 4)] (.ite (.bin .ilt (.var 5) (.un .len (.bin .idx (.var 1) (.var 3)))) (.chk (.bin .inb (.un .len (.bin .idx (.var 1) (.var 3))) (.var 5)) (.chk (.bin .inb (.un .len (.var 6)) (.bin .idx (.bin .idx (.var 1) (.var 3)) (.var 5))) (.out 0 [(.bin (.add .i64) (.var 5) (.int 1)), (.tri .set (.var 6) (.bin .idx (.bin .idx (.var 1) (.var 3)) (.var 5)) (.bool true))]))) (.out 1245192 [(.bin .ilt (.var 5) (.un .len (.bin .idx (.var 1) (.var 3)))), (.var 5), (.var 6)]))) 1245192 3 (.out 786436 [(.var 7)]))))) 786436 1 (.out 0 [(.bin (.sub .i64) (.var 3) (.int 1)), (.var 5)])) (.out 720902 [(.var 4)]))) 720902 1 (.out 2 [(.var 3)])))))
theorem d34 : decompF C ⟨[.struct 25], [.slice 4], [true]⟩ Tryd.f34 h34 = some il34 := by kernel_rfl
theorem e34 (R : Fns) (a0 : D) : den C.G R il34 [a0] =
    ((R 35 [a0]).bind fun r0 =>
    if (D.asB (U2.ev (.ble 34359738368) (D.int (((D.asL (at_ (D.asA a0) 0))).length : Int)) (D.int (((D.asL (at_ (D.asA a0) 0))).length : Int)))) then
    if (decide (0 ≤ (D.asI (at_ r0 1)) ∧ (D.asI (at_ r0 1)) < (((List.replicate (Int.toNat (((D.asL (at_ (D.asA a0) 0))).length : Int)) (D.bool false))).length : Int))) then
    (loopL (fun s2 =>
        if (decide ((0 : Int) ≤ (D.asI (at_ s2 0)))) then
          (if (decide (0 ≤ (D.asI (at_ s2 0)) ∧ (D.asI (at_ s2 0)) < (((D.asL (at_ s2 1))).length : Int))) then
            if (!(D.asB (at_ (D.asL (at_ s2 1)) (Int.toNat (D.asI (at_ s2 0)))))) then
              some (786436, [(at_ s2 1)])
            else
              if (decide (0 ≤ (D.asI (at_ s2 0)) ∧ (D.asI (at_ s2 0)) < (((D.asL (at_ r0 0))).length : Int))) then
              (loopL (fun s5 =>
                  if (decide ((D.asI (at_ s5 0)) < (((D.asL (at_ (D.asL (at_ r0 0)) (Int.toNat (D.asI (at_ s2 0)))))).length : Int))) then
                    if (decide (0 ≤ (D.asI (at_ s5 0)) ∧ (D.asI (at_ s5 0)) < (((D.asL (at_ (D.asL (at_ r0 0)) (Int.toNat (D.asI (at_ s2 0)))))).length : Int))) then
                    if (decide (0 ≤ (D.asI (at_ (D.asL (at_ (D.asL (at_ r0 0)) (Int.toNat (D.asI (at_ s2 0))))) (Int.toNat (D.asI (at_ s5 0))))) ∧ (D.asI (at_ (D.asL (at_ (D.asL (at_ r0 0)) (Int.toNat (D.asI (at_ s2 0))))) (Int.toNat (D.asI (at_ s5 0))))) < (((D.asL (at_ s5 1))).length : Int))) then
                    some (0, [(D.int (IntKind.wrap .i64 ((D.asI (at_ s5 0)) + (1 : Int)))), (D.list (((D.asL (at_ s5 1))).set (Int.toNat (D.asI (at_ (D.asL (at_ (D.asL (at_ r0 0)) (Int.toNat (D.asI (at_ s2 0))))) (Int.toNat (D.asI (at_ s5 0)))))) (D.bool true)))])
                    else none
                    else none
                  else
                    some (1245192, [(D.bool (decide ((D.asI (at_ s5 0)) < (((D.asL (at_ (D.asL (at_ r0 0)) (Int.toNat (D.asI (at_ s2 0)))))).length : Int)))), (at_ s5 0), (at_ s5 1)])) [(D.int 0), (at_ s2 1)]).bind fun o4 =>
              if o4.1 = 1245192 then
                some (786436, [(at_ o4.2 2)])
              else some o4
              else none
            else none).bind fun o3 =>
          if o3.1 = 786436 then
            some (0, [(D.int (IntKind.wrap .i64 ((D.asI (at_ s2 0)) - (1 : Int)))), (at_ o3.2 0)])
          else some o3
        else
          some (720902, [(at_ s2 1)])) [(D.int (IntKind.wrap .i64 ((((D.asL (at_ (D.asA a0) 0))).length : Int) - (1 : Int)))), (D.list (((List.replicate (Int.toNat (((D.asL (at_ (D.asA a0) 0))).length : Int)) (D.bool false))).set (Int.toNat (D.asI (at_ r0 1))) (D.bool true)))]).bind fun o1 =>
    if o1.1 = 720902 then
      some (2, [(at_ o1.2 0)])
    else some o1
    else none
    else none : Option Out) := by kernel_rfl
-- (*errata/vm.machine).one
def h44 : List (Nat × List (Nat × Tm × Nat)) := []
def il44 : IL := (.chk (.un .isptr (.var 0)) (.chk (.bin .inb (.un .len (.un (.fld 1) (.un .deref (.var 0)))) (.un (.fld 2) (.var 1))) (.call [] 1 60 [(.var 0), (.fn 65 .lnil (.bin .cons (.un .mkptr (.var 1)) (.bin .cons (.un .mkptr (.bin .idx (.un (.fld 1) (.un .deref (.var 0))) (.un (.fld 2) (.var 1)))) .lnil)))] (.out 2 [(.var 2)]))))
theorem d44 : decompF C ⟨[.ptr 81, .struct 52], [.slice 39], [true]⟩ Tryd.f44 h44 = some il44 := by kernel_rfl
theorem e44 (R : Fns) (a0 a1 : D) : den C.G R il44 [a0, a1] =
    (if (D.isP a0) then
    if (decide (0 ≤ (D.asI (at_ (D.asA a1) 2)) ∧ (D.asI (at_ (D.asA a1) 2)) < (((D.asL (at_ (D.asA (D.asP a0)) 1))).length : Int))) then
    (R 60 [a0, (D.fn 65 ([] : List D) ((D.ptr a1) :: ((D.ptr (at_ (D.asL (at_ (D.asA (D.asP a0)) 1)) (Int.toNat (D.asI (at_ (D.asA a1) 2))))) :: ([] : List D))))]).bind fun r0 =>
    some (2, [(at_ r0 0)])
    else none
    else none : Option Out) := by kernel_rfl
-- errata/errataref03.Compare
def h47 : List (Nat × List (Nat × Tm × Nat)) := []
def il47 : IL := (.ite (.bin .ilt (.un (.fld 0) (.var 0)) (.un (.fld 0) (.var 1))) (.out 2 [(.int (-1))]) (.ite (.bin .ilt (.un (.fld 0) (.var 1)) (.un (.fld 0) (.var 0))) (.out 2 [(.int 1)]) (.ite (.bin .ilt (.un (.fld 1) (.var 0)) (.un (.fld 1) (.var 1))) (.out 2 [(.int (-1))]) (.ite (.bin .ilt (.un (.fld 1) (.var 1)) (.un (.fld 1) (.var 0))) (.out 2 [(.int 1)]) (.ite (.bin .slt (.un (.fld 2) (.var 0)) (.un (.fld 2) (.var 1))) (.out 2 [(.int (-1))]) (.ite (.bin .slt (.un (.fld 2) (.var 1)) (.un (.fld 2) (.var 0))) (.out 2 [(.int 1)]) (.out 2 [(.int 0)])))))))
theorem d47 : decompF C ⟨[.struct 39, .struct 39], [.int .i64], [false]⟩ Tryd.f47 h47 = some il47 := by kernel_rfl
theorem e47 (R : Fns) (a0 a1 : D) : den C.G R il47 [a0, a1] =
    (if (decide ((D.asI (at_ (D.asA a0) 0)) < (D.asI (at_ (D.asA a1) 0)))) then
      some (2, [(D.int (-1))])
    else
      if (decide ((D.asI (at_ (D.asA a1) 0)) < (D.asI (at_ (D.asA a0) 0)))) then
        some (2, [(D.int 1)])
      else
        if (decide ((D.asI (at_ (D.asA a0) 1)) < (D.asI (at_ (D.asA a1) 1)))) then
          some (2, [(D.int (-1))])
        else
          if (decide ((D.asI (at_ (D.asA a1) 1)) < (D.asI (at_ (D.asA a0) 1)))) then
            some (2, [(D.int 1)])
          else
            if (strLt (D.asS (at_ (D.asA a0) 2)) (D.asS (at_ (D.asA a1) 2))) then
              some (2, [(D.int (-1))])
            else
              if (strLt (D.asS (at_ (D.asA a1) 2)) (D.asS (at_ (D.asA a0) 2))) then
                some (2, [(D.int 1)])
              else
                some (2, [(D.int 0)]) : Option Out) := by kernel_rfl
-- errata/code.bare
def h55 : List (Nat × List (Nat × Tm × Nat)) := [(18, [(1, ⟨[(3, (.bptr 24 [] 52)), (1, (.bptr 8 [] 52)), (2, (.bptr 16 [] 52))], [(24, (.box 52 (.agg 52 [(.dat (.int .i64) (.un (.fld 0) (.var 0))), (.dat (.int .i64) (.un (.fld 1) (.var 0))), (.dat (.int .i64) (.var 1)), (.dat (.int .i64) (.var 2)), (.dat (.int .i64) (.var 3)), (.dat (.int .i64) (.int 0)), (.dat (.str) (.str []))]))), (8, (.box 52 (.dat (.struct 52) (.var 0)))), (16, (.box 52 (.agg 52 [(.dat (.int .i64) (.int 0)), (.dat (.int .i64) (.int 0)), (.dat (.int .i64) (.int 0)), (.dat (.int .i64) (.int 0)), (.dat (.int .i64) (.int 0)), (.dat (.int .i64) (.int 0)), (.dat (.str) (.str []))])))]⟩, 3)]), (32, [(1, ⟨[(3, (.bptr 24 [] 52)), (2, (.bptr 16 [] 52))], [(24, (.box 52 (.agg 52 [(.dat (.int .i64) (.un (.fld 0) (.var 0))), (.dat (.int .i64) (.un (.fld 1) (.var 0))), (.dat (.int .i64) (.var 1)), (.dat (.int .i64) (.var 2)), (.dat (.int .i64) (.var 3)), (.dat (.int .i64) (.var 4)), (.dat (.str) (.var 5))]))), (16, (.box 52 (.agg 52 [(.dat (.int .i64) (.int 0)), (.dat (.int .i64) (.int 0)), (.dat (.int .i64) (.int 0)), (.dat (.int .i64) (.int 0)), (.dat (.int .i64) (.int 0)), (.dat (.int .i64) (.int 0)), (.dat (.str) (.str []))])))]⟩, 2)]), (26, [(1, ⟨[(28, (.dat (.int .i64) (.un (.fld 0) (.var 0)))), (1, (.bptr 8 [] 52)), (29, (.dat (.bool) (.var 4))), (3, (.bptr 24 [] 52)), (2, (.bptr 16 [] 52))], [(8, (.box 52 (.dat (.struct 52) (.var 0)))), (24, (.box 52 (.agg 52 [(.dat (.int .i64) (.un (.fld 0) (.var 0))), (.dat (.int .i64) (.un (.fld 1) (.var 0))), (.dat (.int .i64) (.var 1)), (.dat (.int .i64) (.var 2)), (.dat (.int .i64) (.var 3)), (.dat (.int .i64) (.int 0)), (.dat (.str) (.str []))]))), (16, (.box 52 (.agg 52 [(.dat (.int .i64) (.int 0)), (.dat (.int .i64) (.int 0)), (.dat (.int .i64) (.int 0)), (.dat (.int .i64) (.int 0)), (.dat (.int .i64) (.int 0)), (.dat (.int .i64) (.int 0)), (.dat (.str) (.str []))])))]⟩, 1)]), (16, [(1, ⟨[(3, (.bptr 24 [] 52)), (1, (.bptr 8 [] 52)), (2, (.bptr 16 [] 52))], [(24, (.box 52 (.agg 52 [(.dat (.int .i64) (.un (.fld 0) (.var 0))), (.dat (.int .i64) (.un (.fld 1) (.var 0))), (.dat (.int .i64) (.int 0)), (.dat (.int .i64) (.var 2)), (.dat (.int .i64) (.var 3)), (.dat (.int .i64) (.int 0)), (.dat (.str) (.str []))]))), (8, (.box 52 (.dat (.struct 52) (.var 0)))), (16, (.box 52 (.agg 52 [(.dat (.int .i64) (.int 0)), (.dat (.int .i64) (.int 0)), (.dat (.int .i64) (.int 0)), (.dat (.int .i64) (.int 0)), (.dat (.int .i64) (.int 0)), (.dat (.int .i64) (.int 0)), (.dat (.str) (.str []))])))]⟩, 2), (3, ⟨[(3, (.bptr 24 [] 52)), (1, (.bptr 8 [] 52)), (2, (.bptr 16 [] 52))], [(24, (.box 52 (.agg 52 [(.dat (.int .i64) (.un (.fld 0) (.var 0))), (.dat (.int .i64) (.un (.fld 1) (.var 0))), (.dat (.int .i64) (.int 0)), (.dat (.int .i64) (.int 0)), (.dat (.int .i64) (.int 0)), (.dat (.int .i64) (.int 0)), (.dat (.str) (.str []))]))), (8, (.box 52 (.dat (.struct 52) (.var 0)))), (16, (.box 52 (.agg 52 [(.dat (.int .i64) (.int 0)), (.dat (.int .i64) (.int 0)), (.dat (.int .i64) (.int 0)), (.dat (.int .i64) (.int 0)), (.dat (.int .i64) (.int 0)), (.dat (.int .i64) (.int 0)), (.dat (.str) (.str []))])))]⟩, 0)]), (14, [(1, ⟨[(3, (.bptr 24 [] 52)), (1, (.bptr 8 [] 52)), (2, (.bptr 16 [] 52))], [(24, (.box 52 (.agg 52 [(.dat (.int .i64) (.un (.fld 0) (.var 0))), (.dat (.int .i64) (.un (.fld 1) (.var 0))), (.dat (.int .i64) (.int 0)), (.dat (.int .i64) (.int 0)), (.dat (.int .i64) (.var 2)), (.dat (.int .i64) (.int 0)), (.dat (.str) (.str []))]))), (8, (.box 52 (.dat (.struct 52) (.var 0)))), (16, (.box 52 (.agg 52 [(.dat (.int .i64) (.int 0)), (.dat (.int .i64) (.int 0)), (.dat (.int .i64) (.int 0)), (.dat (.int .i64) (.int 0)), (.dat (.int .i64) (.int 0)), (.dat (.int .i64) (.int 0)), (.dat (.str) (.str []))])))]⟩, 1), (6, ⟨[(3, (.bptr 24 [] 52)), (1, (.bptr 8 [] 52)), (2, (.bptr 16 [] 52))], [(24, (.box 52 (.agg 52 [(.dat (.int .i64) (.un (.fld 0) (.var 0))), (.dat (.int .i64) (.un (.fld 1) (.var 0))), (.dat (.int .i64) (.int 0)), (.dat (.int .i64) (.int 0)), (.dat (.int .i64) (.int 0)), (.dat (.int .i64) (.int 0)), (.dat (.str) (.str []))]))), (8, (.box 52 (.dat (.struct 52) (.var 0)))), (16, (.box 52 (.agg 52 [(.dat (.int .i64) (.int 0)), (.dat (.int .i64) (.int 0)), (.dat (.int .i64) (.int 0)), (.dat (.int .i64) (.int 0)), (.dat (.int .i64) (.int 0)), (.dat (.int .i64) (.int 0)), (.dat (.str) (.str []))])))]⟩, 0), (3, ⟨[(3, (.bptr 24 [] 52)), (1, (.bptr 8 [] 52)), (2, (.bptr 16 [] 52))], [(24, (.box 52 (.agg 52 [(.dat (.int .i64) (.un (.fld 0) (.var 0))), (.dat (.int .i64) (.un (.fld 1) (.var 0))), (.dat (.int .i64) (.int 0)), (.dat (.int .i64) (.int 0)), (.dat (.int .i64) (.int 0)), (.dat (.int .i64) (.int 0)), (.dat (.str) (.str []))]))), (8, (.box 52 (.dat (.struct 52) (.var 0)))), (16, (.box 52 (.agg 52 [(.dat (.int .i64) (.int 0)), (.dat (.int .i64) (.int 0)), (.dat (.int .i64) (.int 0)), (.dat (.int .i64) (.int 0)), (.dat (.int .i64) (.int 0)), (.dat (.int .i64) (.int 0)), (.dat (.str) (.str []))])))]⟩, 0)])]
def il55 : IL := (.bindc (.call [] 1 56 [(.un (.fld 0) (.var 0))] (.bindc (.bindc (.bindc (.bindc (.bindc (.ite (.bin .ieq (.var 1) (.int 3)) (.out 917508 [(.un (.fld 4) (.var 0))]) (.ite (.bin .ieq (.var 1) (.int 2)) (.out 917508 [(.int 0)]) (.ite (.bin .ieq (.var 1) (.int 1)) (.out 917513 []) (.out 917510 [])))) 917508 1 (.out 1048580 [(.un (.fld 3) (.var 0)), (.var 2)])) 917513 0 (.out 1048580 [(.int 0), (.int 0)])) 917510 0 (.out 1048582 [])) 1048580 2 (.out 1179652 [(.un (.fld 2) (.var 0)), (.var 2), (.var 3)])) 1048582 0 (.out 1179652 [(.int 0), (.int 0), (.int 0)]))) 1179652 3 (.bindc (.bindc (.ite (.bin .ieq (.un (.fld 0) (.var 0)) (.int 0)) (.out 1703940 [(.bin .ieq (.un (.fld 0) (.var 0)) (.int 0))]) (.ite (.bin .ieq (.un (.fld 0) (.var 0)) (.int 2)) (.out 1703940 [(.bin .ieq (.un (.fld 0) (.var 0)) (.int 2))]) (.out 1703940 [(.bin .ieq (.un (.fld 0) (.var 0)) (.int 3))]))) 1703940 1 (.ite (.var 4) (.out 2097156 [(.un (.fld 5) (.var 0)), (.str [])]) (.ite (.bin .ieq (.un (.fld 0) (.var 0)) (.int 1)) (.out 2097156 [(.int 0), (.un (.fld 6) (.var 0))]) (.out 2097156 [(.int 0), (.str [])])))) 2097156 2 (.out 2 [(.un .mkagg (.bin .cons (.un (.fld 0) (.var 0)) (.bin .cons (.un (.fld 1) (.var 0)) (.bin .cons (.var 1) (.bin .cons (.var 2) (.bin .cons (.var 3) (.bin .cons (.var 4) (.bin .cons (.var 5) .lnil))))))))])))
theorem d55 : decompF C ⟨[.struct 52], [.struct 52], [false]⟩ Tryd.f55 h55 = some il55 := by kernel_rfl
theorem e55 (R : Fns) (a0 : D) : den C.G R il55 [a0] =
    (((R 56 [(at_ (D.asA a0) 0)]).bind fun r1 =>
      (((((if ((D.asI (at_ r1 0)) == (3 : Int)) then
                  some (917508, [(at_ (D.asA a0) 4)])
                else
                  if ((D.asI (at_ r1 0)) == (2 : Int)) then
                    some (917508, [(D.int 0)])
                  else
                    if ((D.asI (at_ r1 0)) == (1 : Int)) then
                      some (917513, [])
                    else
                      some (917510, [])).bind fun o6 =>
              if o6.1 = 917508 then
                some (1048580, [(at_ (D.asA a0) 3), (at_ o6.2 0)])
              else some o6).bind fun o5 =>
            if o5.1 = 917513 then
              some (1048580, [(D.int 0), (D.int 0)])
            else some o5).bind fun o4 =>
          if o4.1 = 917510 then
            some (1048582, [])
          else some o4).bind fun o3 =>
        if o3.1 = 1048580 then
          some (1179652, [(at_ (D.asA a0) 2), (at_ o3.2 0), (at_ o3.2 1)])
        else some o3).bind fun o2 =>
      if o2.1 = 1048582 then
        some (1179652, [(D.int 0), (D.int 0), (D.int 0)])
      else some o2).bind fun o0 =>
    if o0.1 = 1179652 then
      ((if ((D.asI (at_ (D.asA a0) 0)) == (0 : Int)) then
            some (1703940, [(D.bool ((D.asI (at_ (D.asA a0) 0)) == (0 : Int)))])
          else
            if ((D.asI (at_ (D.asA a0) 0)) == (2 : Int)) then
              some (1703940, [(D.bool ((D.asI (at_ (D.asA a0) 0)) == (2 : Int)))])
            else
              some (1703940, [(D.bool ((D.asI (at_ (D.asA a0) 0)) == (3 : Int)))])).bind fun o2 =>
        if o2.1 = 1703940 then
          if (D.asB (at_ o2.2 0)) then
            some (2097156, [(at_ (D.asA a0) 5), (D.str [])])
          else
            if ((D.asI (at_ (D.asA a0) 0)) == (1 : Int)) then
              some (2097156, [(D.int 0), (at_ (D.asA a0) 6)])
            else
              some (2097156, [(D.int 0), (D.str [])])
        else some o2).bind fun o1 =>
      if o1.1 = 2097156 then
        some (2, [(D.agg ((at_ (D.asA a0) 0) :: ((at_ (D.asA a0) 1) :: ((at_ o0.2 0) :: ((at_ o0.2 1) :: ((at_ o0.2 2) :: ((at_ o1.2 0) :: ((at_ o1.2 1) :: ([] : List D)))))))))])
      else some o1
    else some o0 : Option Out) := by kernel_rfl
-- (errata/expr.scope).typed
def h58 : List (Nat × List (Nat × Tm × Nat)) := []
def il58 : IL := (.call [] 1 77 [(.var 1)] (.ite (.bin .ilt (.int 12) (.var 2)) (.out 2 [(.int 0), (.bool false)]) (.call [] 2 78 [(.var 0), (.var 1)] (.ite (.var 4) (.out 2 [(.var 3), (.bool true)]) (.out 2 [(.int 0), (.bool false)])))))
theorem d58 : decompF C ⟨[.struct 95, .struct 75], [.int .i64, .bool], [false, false]⟩ Tryd.f58 h58 = some il58 := by kernel_rfl
theorem e58 (R : Fns) (a0 a1 : D) : den C.G R il58 [a0, a1] =
    ((R 77 [a1]).bind fun r0 =>
    if (decide ((12 : Int) < (D.asI (at_ r0 0)))) then
      some (2, [(D.int 0), (D.bool false)])
    else
      (R 78 [a0, a1]).bind fun r1 =>
      if (D.asB (at_ r1 1)) then
        some (2, [(at_ r1 0), (D.bool true)])
      else
        some (2, [(D.int 0), (D.bool false)]) : Option Out) := by kernel_rfl
-- errata/value.all
def h59 : List (Nat × List (Nat × Tm × Nat)) := []
def il59 : IL := (.call [] 1 79 [(.var 0), (.fn 80 .lnil .lnil)] (.out 2 [(.un .not (.var 1))]))
theorem d59 : decompF C ⟨[.slice 39], [.bool], [false]⟩ Tryd.f59 h59 = some il59 := by kernel_rfl
theorem e59 (R : Fns) (a0 : D) : den C.G R il59 [a0] =
    ((R 79 [a0, (D.fn 80 ([] : List D) ([] : List D))]).bind fun r0 =>
    some (2, [(D.bool (!(D.asB (at_ r0 0))))]) : Option Out) := by kernel_rfl
-- errata/value.Text
def h64 : List (Nat × List (Nat × Tm × Nat)) := []
def il64 : IL := (.out 2 [(.un .mkagg (.bin .cons (.int 1) (.bin .cons (.int 0) (.bin .cons (.var 0) .lnil))))])
theorem d64 : decompF C ⟨[.str], [.struct 39], [false]⟩ Tryd.f64 h64 = some il64 := by kernel_rfl
theorem e64 (R : Fns) (a0 : D) : den C.G R il64 [a0] =
    (some (2, [(D.agg ((D.int 1) :: ((D.int 0) :: (a0 :: ([] : List D)))))]) : Option Out) := by kernel_rfl
-- (*errata/vm.machine).three$1
def h69 : List (Nat × List (Nat × Tm × Nat)) := []
def il69 : IL := (.chk (.un .isptr (.var 1)) (.chk (.un .isptr (.var 2)) (.chk (.un .isptr (.var 3)) (.chk (.bin .inb (.un .len (.un .deref (.var 1))) (.var 0)) (.ite (.bin .ieq (.un (.fld 1) (.bin .idx (.un .deref (.var 1)) (.var 0))) (.int 1)) (.chk (.bin .inb (.un .len (.un .deref (.var 2))) (.var 0)) (.out 2 [(.bin .idx (.un .deref (.var 2)) (.var 0))])) (.chk (.bin .inb (.un .len (.un .deref (.var 3))) (.var 0)) (.out 2 [(.bin .idx (.un .deref (.var 3)) (.var 0))])))))))
theorem d69 : decompF C ⟨[.int .i64, .ptr 33, .ptr 33, .ptr 33], [.struct 39], [false]⟩ Tryd.f69 h69 = some il69 := by kernel_rfl
theorem e69 (R : Fns) (a0 a1 a2 a3 : D) : den C.G R il69 [a0, a1, a2, a3] =
    (if (D.isP a1) then
    if (D.isP a2) then
    if (D.isP a3) then
    if (decide (0 ≤ (D.asI a0) ∧ (D.asI a0) < (((D.asL (D.asP a1))).length : Int))) then
    if ((D.asI (at_ (D.asA (at_ (D.asL (D.asP a1)) (Int.toNat (D.asI a0)))) 1)) == (1 : Int)) then
      if (decide (0 ≤ (D.asI a0) ∧ (D.asI a0) < (((D.asL (D.asP a2))).length : Int))) then
      some (2, [(at_ (D.asL (D.asP a2)) (Int.toNat (D.asI a0)))])
      else none
    else
      if (decide (0 ≤ (D.asI a0) ∧ (D.asI a0) < (((D.asL (D.asP a3))).length : Int))) then
      some (2, [(at_ (D.asL (D.asP a3)) (Int.toNat (D.asI a0)))])
      else none
    else none
    else none
    else none
    else none : Option Out) := by kernel_rfl
-- errata/errataref25.name
def h70 : List (Nat × List (Nat × Tm × Nat)) := []
def il70 : IL := (.ite (.bin .or (.bin .ilt (.var 0) (.int 0)) (.bin .ile (.un .len (.bin .cons (.str [105, 110, 116]) (.bin .cons (.str [116, 101, 120, 116]) (.bin .cons (.str [98, 111, 111, 108]) (.bin .cons (.str [99, 111, 108]) (.bin .cons (.str []) (.bin .cons (.str [116, 105, 109, 101]) (.bin .cons (.str [110, 111, 116]) (.bin .cons (.str [110, 101, 103]) (.bin .cons (.str [97, 100, 100]) (.bin .cons (.str [115, 117, 98]) (.bin .cons (.str [109, 117, 108]) (.bin .cons (.str [100, 105, 118]) (.bin .cons (.str [109, 111, 100]) (.bin .cons (.str [101, 113]) (.bin .cons (.str [110, 101]) (.bin .cons (.str [108, 116]) (.bin .cons (.str [108, 101]) (.bin .cons (.str [97, 110, 100]) (.bin .cons (.str [111, 114]) (.bin .cons (.str [99, 111, 110, 99, 97, 116]) (.bin .cons (.str [108, 101, 110]) (.bin .cons (.str [105, 102]) (.bin .cons (.str []) .lnil)))))))))))))))))))))))) (.var 0))) (.out 2 [(.str [])]) (.chk (.bin .inb (.un .len (.bin .cons (.str [105, 110, 116]) (.bin .cons (.str [116, 101, 120, 116]) (.bin .cons (.str [98, 111, 111, 108]) (.bin .cons (.str [99, 111, 108]) (.bin .cons (.str []) (.bin .cons (.str [116, 105, 109, 101]) (.bin .cons (.str [110, 111, 116]) (.bin .cons (.str [110, 101, 103]) (.bin .cons (.str [97, 100, 100]) (.bin .cons (.str [115, 117, 98]) (.bin .cons (.str [109, 117, 108]) (.bin .cons (.str [100, 105, 118]) (.bin .cons (.str [109, 111, 100]) (.bin .cons (.str [101, 113]) (.bin .cons (.str [110, 101]) (.bin .cons (.str [108, 116]) (.bin .cons (.str [108, 101]) (.bin .cons (.str [97, 110, 100]) (.bin .cons (.str [111, 114]) (.bin .cons (.str [99, 111, 110, 99, 97, 116]) (.bin .cons (.str [108, 101, 110]) (.bin .cons (.str [105, 102]) (.bin .cons (.str []) .lnil)))))))))))))))))))))))) (.var 0)) (.out 2 [(.bin .idx (.bin .cons (.str [105, 110, 116]) (.bin .cons (.str [116, 101, 120, 116]) (.bin .cons (.str [98, 111, 111, 108]) (.bin .cons (.str [99, 111, 108]) (.bin .cons (.str []) (.bin .cons (.str [116, 105, 109, 101]) (.bin .cons (.str [110, 111, 116]) (.bin .cons (.str [110, 101, 103]) (.bin .cons (.str [97, 100, 100]) (.bin .cons (.str [115, 117, 98]) (.bin .cons (.str [109, 117, 108]) (.bin .cons (.str [100, 105, 118]) (.bin .cons (.str [109, 111, 100]) (.bin .cons (.str [101, 113]) (.bin .cons (.str [110, 101]) (.bin .cons (.str [108, 116]) (.bin .cons (.str [108, 101]) (.bin .cons (.str [97, 110, 100]) (.bin .cons (.str [111, 114]) (.bin .cons (.str [99, 111, 110, 99, 97, 116]) (.bin .cons (.str [108, 101, 110]) (.bin .cons (.str [105, 102]) (.bin .cons (.str []) .lnil))))))))))))))))))))))) (.var 0))])))
theorem d70 : decompF C ⟨[.int .i64], [.str], [false]⟩ Tryd.f70 h70 = some il70 := by kernel_rfl
theorem e70 (R : Fns) (a0 : D) : den C.G R il70 [a0] =
    (if ((decide ((D.asI a0) < (0 : Int))) || (decide (((((D.str [105, 110, 116]) :: ((D.str [116, 101, 120, 116]) :: ((D.str [98, 111, 111, 108]) :: ((D.str [99, 111, 108]) :: ((D.str []) :: ((D.str [116, 105, 109, 101]) :: ((D.str [110, 111, 116]) :: ((D.str [110, 101, 103]) :: ((D.str [97, 100, 100]) :: ((D.str [115, 117, 98]) :: ((D.str [109, 117, 108]) :: ((D.str [100, 105, 118]) :: ((D.str [109, 111, 100]) :: ((D.str [101, 113]) :: ((D.str [110, 101]) :: ((D.str [108, 116]) :: ((D.str [108, 101]) :: ((D.str [97, 110, 100]) :: ((D.str [111, 114]) :: ((D.str [99, 111, 110, 99, 97, 116]) :: ((D.str [108, 101, 110]) :: ((D.str [105, 102]) :: ((D.str []) :: ([] : List D))))))))))))))))))))))))).length : Int) ≤ (D.asI a0)))) then
      some (2, [(D.str [])])
    else
      if (decide (0 ≤ (D.asI a0) ∧ (D.asI a0) < ((((D.str [105, 110, 116]) :: ((D.str [116, 101, 120, 116]) :: ((D.str [98, 111, 111, 108]) :: ((D.str [99, 111, 108]) :: ((D.str []) :: ((D.str [116, 105, 109, 101]) :: ((D.str [110, 111, 116]) :: ((D.str [110, 101, 103]) :: ((D.str [97, 100, 100]) :: ((D.str [115, 117, 98]) :: ((D.str [109, 117, 108]) :: ((D.str [100, 105, 118]) :: ((D.str [109, 111, 100]) :: ((D.str [101, 113]) :: ((D.str [110, 101]) :: ((D.str [108, 116]) :: ((D.str [108, 101]) :: ((D.str [97, 110, 100]) :: ((D.str [111, 114]) :: ((D.str [99, 111, 110, 99, 97, 116]) :: ((D.str [108, 101, 110]) :: ((D.str [105, 102]) :: ((D.str []) :: ([] : List D))))))))))))))))))))))))).length : Int))) then
      some (2, [(at_ ((D.str [105, 110, 116]) :: ((D.str [116, 101, 120, 116]) :: ((D.str [98, 111, 111, 108]) :: ((D.str [99, 111, 108]) :: ((D.str []) :: ((D.str [116, 105, 109, 101]) :: ((D.str [110, 111, 116]) :: ((D.str [110, 101, 103]) :: ((D.str [97, 100, 100]) :: ((D.str [115, 117, 98]) :: ((D.str [109, 117, 108]) :: ((D.str [100, 105, 118]) :: ((D.str [109, 111, 100]) :: ((D.str [101, 113]) :: ((D.str [110, 101]) :: ((D.str [108, 116]) :: ((D.str [108, 101]) :: ((D.str [97, 110, 100]) :: ((D.str [111, 114]) :: ((D.str [99, 111, 110, 99, 97, 116]) :: ((D.str [108, 101, 110]) :: ((D.str [105, 102]) :: ((D.str []) :: ([] : List D)))))))))))))))))))))))) (Int.toNat (D.asI a0)))])
      else none : Option Out) := by kernel_rfl
-- errata/expr.kind
def h76 : List (Nat × List (Nat × Tm × Nat)) := []
def il76 : IL := (.out 2 [(.bin .and (.bin .ile (.int 0) (.var 0)) (.bin .ilt (.var 0) (.int 3)))])
theorem d76 : decompF C ⟨[.int .i64], [.bool], [false]⟩ Tryd.f76 h76 = some il76 := by kernel_rfl
theorem e76 (R : Fns) (a0 : D) : den C.G R il76 [a0] =
    (some (2, [(D.bool ((decide ((0 : Int) ≤ (D.asI a0))) && (decide ((D.asI a0) < (3 : Int)))))]) : Option Out) := by kernel_rfl
-- cmp.Compare[int]
def h83 : List (Nat × List (Nat × Tm × Nat)) := []
def il83 : IL := (.call [] 1 93 [(.var 0)] (.call [] 1 93 [(.var 1)] (.ite (.var 2) (.ite (.var 3) (.out 2 [(.int 0)]) (.out 2 [(.int (-1))])) (.ite (.var 3) (.out 2 [(.int 1)]) (.ite (.bin .ilt (.var 0) (.var 1)) (.out 2 [(.int (-1))]) (.ite (.bin .ilt (.var 1) (.var 0)) (.out 2 [(.int 1)]) (.out 2 [(.int 0)])))))))
theorem d83 : decompF C ⟨[.int .i64, .int .i64], [.int .i64], [false]⟩ Tryd.f83 h83 = some il83 := by kernel_rfl
theorem e83 (R : Fns) (a0 a1 : D) : den C.G R il83 [a0, a1] =
    ((R 93 [a0]).bind fun r0 =>
    (R 93 [a1]).bind fun r1 =>
    if (D.asB (at_ r0 0)) then
      if (D.asB (at_ r1 0)) then
        some (2, [(D.int 0)])
      else
        some (2, [(D.int (-1))])
    else
      if (D.asB (at_ r1 0)) then
        some (2, [(D.int 1)])
      else
        if (decide ((D.asI a0) < (D.asI a1))) then
          some (2, [(D.int (-1))])
        else
          if (decide ((D.asI a1) < (D.asI a0))) then
            some (2, [(D.int 1)])
          else
            some (2, [(D.int 0)]) : Option Out) := by kernel_rfl
-- slices.Equal[[]int,int]
def h90 : List (Nat × List (Nat × Tm × Nat)) := [(9, [(0, ⟨[(1, (.dat (.slice 3) (.var 1))), (0, (.dat (.slice 3) (.var 0))), (12, (.dat (.int .i64) (.un .len (.var 0)))), (13, (.dat (.int .i64) (.var 2))), (4, (.dat (.bool) (.bool false)))], []⟩, 1), (3, ⟨[(4, (.dat (.bool) (.bool false)))], []⟩, 0)])]
def il90 : IL := (.ite (.un .not (.bin .ieq (.un .len (.var 0)) (.un .len (.var 1)))) (.out 2 [(.bool false)]) (.bindc (.loop [(.int 0)] (.ite (.bin .ilt (.var 2) (.un .len (.var 0))) (.chk (.bin .inb (.un .len (.var 0)) (.var 2)) (.chk (.bin .inb (.un .len (.var 1)) (.var 2)) (.ite (.un .not (.bin .ieq (.bin .idx (.var 0) (.var 2)) (.bin .idx (.var 1) (.var 2)))) (.out 2 [(.bool false)]) (.out 0 [(.bin (.add .i64) (.var 2) (.int 1))])))) (.out 589830 []))) 589830 0 (.out 2 [(.bool true)])))
theorem d90 : decompF C ⟨[.slice 3, .slice 3], [.bool], [false]⟩ Tryd.f90 h90 = some il90 := by kernel_rfl
theorem e90 (R : Fns) (a0 a1 : D) : den C.G R il90 [a0, a1] =
    (if (!((((D.asL a0)).length : Int) == (((D.asL a1)).length : Int))) then
      some (2, [(D.bool false)])
    else
      (loopL (fun s1 =>
          if (decide ((D.asI (at_ s1 0)) < (((D.asL a0)).length : Int))) then
            if (decide (0 ≤ (D.asI (at_ s1 0)) ∧ (D.asI (at_ s1 0)) < (((D.asL a0)).length : Int))) then
            if (decide (0 ≤ (D.asI (at_ s1 0)) ∧ (D.asI (at_ s1 0)) < (((D.asL a1)).length : Int))) then
            if (!((D.asI (at_ (D.asL a0) (Int.toNat (D.asI (at_ s1 0))))) == (D.asI (at_ (D.asL a1) (Int.toNat (D.asI (at_ s1 0))))))) then
              some (2, [(D.bool false)])
            else
              some (0, [(D.int (IntKind.wrap .i64 ((D.asI (at_ s1 0)) + (1 : Int))))])
            else none
            else none
          else
            some (589830, [])) [(D.int 0)]).bind fun o0 =>
      if o0.1 = 589830 then
        some (2, [(D.bool true)])
      else some o0 : Option Out) := by kernel_rfl
end Go.Proofs.YtlbckmllpciglaaDoor
