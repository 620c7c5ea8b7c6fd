/- Some functions' texts, and what they mean. Printed by a program of this claim's author. -/
import Derived.Test.YtlbckmllpciglaaDoorSyA
set_option linter.unusedVariables false
set_option linter.unusedSimpArgs false
set_option linter.all false
namespace Go.Proofs.YtlbckmllpciglaaDoor
open Go Sy
set_option maxRecDepth 100000
-- errata/errataref27.Select
def h14 : List (Nat × List (Nat × Tm × Nat)) := [(23, [(0, ⟨[(10, (.sli 272 0 39)), (2, (.dat (.slice 37) (.var 2))), (13, (.dat (.int .i64) (.var 7))), (12, (.sli 464 0 37)), (7, (.dat (.int .i64) (.int 0))), (6, (.nils 37))], [(272, (.arr 39 (.var 5) 0)), (464, (.arr 37 (.var 8) 0))]⟩, 2), (3, ⟨[(12, (.sli 464 0 37)), (7, (.dat (.int .i64) (.int 0))), (6, (.nils 37))], [(464, (.arr 37 (.var 7) 0))]⟩, 1)]), (24, [(1, ⟨[(51, (.dat (.bool) (.bin .ieq (.un (.fld 1) (.bin .idx (.var 5) (.var 7))) (.int 1)))), (50, (.dat (.int .i64) (.un (.fld 1) (.bin .idx (.var 5) (.var 7))))), (47, (.dat (.int .i64) (.var 7))), (46, (.sli 272 0 39)), (10, (.sli 272 0 39)), (43, (.dat (.bool) (.bin .ilt (.var 7) (.un .len (.var 2))))), (42, (.dat (.int .i64) (.un .len (.var 2)))), (40, (.dat (.int .i64) (.var 7))), (41, (.dat (.slice 37) (.var 2))), (2, (.dat (.slice 37) (.var 2))), (13, (.dat (.int .i64) (.var 7))), (12, (.sli 464 0 37)), (7, (.dat (.int .i64) (.int 0))), (6, (.nils 37))], [(272, (.arr 39 (.var 5) 0)), (464, (.arr 37 (.var 9) 0))]⟩, 1)])]
def il14 : IL := (.call [] 2 30 [(.var 0), (.var 1)] (.ite (.un .not (.bin .ieq (.var 4) (.int 0))) (.out 2 [.lnil, (.var 4)]) (.chk (.bin .inb (.un .len (.un (.fld 1) (.var 0))) (.un (.fld 2) (.var 0))) (.ite (.un .not (.bin .ieq (.bin .idx (.un (.fld 1) (.var 0)) (.un (.fld 2) (.var 0))) (.int 2))) (.out 2 [.lnil, (.int 13)]) (.call [] 2 12 [(.var 0), (.var 1), (.var 2)] (.ite (.un .not (.bin .ieq (.var 6) (.int 0))) (.out 2 [.lnil, (.var 6)]) (.bindc (.loop [(.int 0), .lnil] (.ite (.bin .ilt (.var 7) (.un .len (.var 2))) (.bindc (.chk (.bin .inb (.un .len (.var 5)) (.var 7)) (.ite (.bin .ieq (.un (.fld 1) (.bin .idx (.var 5) (.var 7))) (.int 1)) (.chk (.bin .inb (.un .len (.var 2)) (.var 7)) (.chk (.bin (.fits 34359738368) (.un .len (.var 8)) (.un .len (.bin .cons (.bin .idx (.var 2) (.var 7)) .lnil))) (.out 1572868 [(.bin .snoc (.var 8) (.bin .idx (.var 2) (.var 7)))]))) (.out 1572868 [(.var 8)]))) 1572868 1 (.out 0 [(.bin (.add .i64) (.var 7) (.int 1)), (.var 9)])) (.out 1507334 [(.var 8)]))) 1507334 1 (.out 2 [(.var 7), (.int 0)]))))))))
theorem d14 : decompF C ⟨[.struct 25, .slice 3, .slice 37], [.slice 37, .int .i64], [true, false]⟩ Tryd.f14 h14 = some il14 := by kernel_rfl
theorem e14 (R : Fns) (a0 a1 a2 : D) : den C.G R il14 [a0, a1, a2] =
    ((R 30 [a0, a1]).bind fun r0 =>
    if (!((D.asI (at_ r0 1)) == (0 : Int))) then
      some (2, [(D.list []), (at_ r0 1)])
    else
      if (decide (0 ≤ (D.asI (at_ (D.asA a0) 2)) ∧ (D.asI (at_ (D.asA a0) 2)) < (((D.asL (at_ (D.asA a0) 1))).length : Int))) then
      if (!((D.asI (at_ (D.asL (at_ (D.asA a0) 1)) (Int.toNat (D.asI (at_ (D.asA a0) 2))))) == (2 : Int))) then
        some (2, [(D.list []), (D.int 13)])
      else
        (R 12 [a0, a1, a2]).bind fun r1 =>
        if (!((D.asI (at_ r1 1)) == (0 : Int))) then
          some (2, [(D.list []), (at_ r1 1)])
        else
          (loopL (fun s3 =>
              if (decide ((D.asI (at_ s3 0)) < (((D.asL a2)).length : Int))) then
                (if (decide (0 ≤ (D.asI (at_ s3 0)) ∧ (D.asI (at_ s3 0)) < (((D.asL (at_ r1 0))).length : Int))) then
                  if ((D.asI (at_ (D.asA (at_ (D.asL (at_ r1 0)) (Int.toNat (D.asI (at_ s3 0))))) 1)) == (1 : Int)) then
                    if (decide (0 ≤ (D.asI (at_ s3 0)) ∧ (D.asI (at_ s3 0)) < (((D.asL a2)).length : Int))) then
                    if (D.asB (U2.ev (.fits 34359738368) (D.int (((D.asL (at_ s3 1))).length : Int)) (D.int ((((at_ (D.asL a2) (Int.toNat (D.asI (at_ s3 0)))) :: ([] : List D))).length : Int)))) then
                    some (1572868, [(D.list ((D.asL (at_ s3 1)) ++ [(at_ (D.asL a2) (Int.toNat (D.asI (at_ s3 0))))]))])
                    else none
                    else none
                  else
                    some (1572868, [(at_ s3 1)])
                  else none).bind fun o4 =>
                if o4.1 = 1572868 then
                  some (0, [(D.int (IntKind.wrap .i64 ((D.asI (at_ s3 0)) + (1 : Int)))), (at_ o4.2 0)])
                else some o4
              else
                some (1507334, [(at_ s3 1)])) [(D.int 0), (D.list [])]).bind fun o2 =>
          if o2.1 = 1507334 then
            some (2, [(at_ o2.2 0), (D.int 0)])
          else some o2
      else none : Option Out) := by kernel_rfl
-- errata/code.Compact
def h20 : List (Nat × List (Nat × Tm × Nat)) := [(39, [(0, ⟨[(1, (.bptr 8 [] 25)), (5, (.sli 240 0 3)), (12, (.sli 1128 0 3)), (3, (.sli 192 0 23)), (65, (.dat (.slice 52) (.un (.fld 0) (.var 1)))), (66, (.dat (.int .i64) (.un .len (.un (.fld 0) (.var 1))))), (67, (.dat (.int .i64) (.var 5))), (10, (.bptr 80 [] 25)), (4, (.dat (.int .i64) (.var 3))), (11, (.sli 504 0 3)), (2, (.bptr 16 [] 25))], [(8, (.box 25 (.dat (.struct 25) (.var 1)))), (240, (.arr 3 (.tri .set (.var 4) (.var 3) (.un .len (.un (.fld 0) (.var 1)))) 0)), (1128, (.arr 3 (.var 6) 0)), (192, (.arr 23 (.var 2) 0)), (80, (.box 25 (.agg 25 [(.sli 1336 0 52), (.sli 1208 0 3), (.dat (.int .i64) (.int 0))]))), (1336, (.arr 52 (.var 7) 0)), (1208, (.arr 3 (.var 8) 0)), (504, (.arr 3 (.var 9) 0)), (16, (.box 25 (.agg 25 [(.nils 52), (.nils 3), (.dat (.int .i64) (.int 0))])))]⟩, 5), (7, ⟨[(10, (.bptr 80 [] 25)), (4, (.dat (.int .i64) (.var 3))), (11, (.sli 504 0 3)), (2, (.bptr 16 [] 25))], [(80, (.box 25 (.agg 25 [(.sli 1336 0 52), (.sli 1208 0 3), (.dat (.int .i64) (.int 0))]))), (1336, (.arr 52 (.var 5) 0)), (1208, (.arr 3 (.var 6) 0)), (504, (.arr 3 (.var 7) 0)), (16, (.box 25 (.agg 25 [(.nils 52), (.nils 3), (.dat (.int .i64) (.int 0))])))]⟩, 3)]), (66, [(1, ⟨[(137, (.dat (.bool) (.bin .ieq (.var 19) (.un .len (.var 6))))), (136, (.dat (.int .i64) (.un .len (.var 6)))), (134, (.dat (.int .i64) (.var 19))), (131, (.dat (.bool) (.var 15))), (1, (.bptr 8 [] 25)), (107, (.dat (.bool) (.var 16))), (5, (.sli 240 0 3)), (106, (.dat (.bool) (.var 17))), (105, (.dat (.int .i64) (.un .len (.var 6)))), (103, (.dat (.int .i64) (.var 18))), (12, (.sli 1128 0 3)), (19, (.dat (.int .i64) (.var 19))), (16, (.tab 68 [(.bptr 120 [2] 3), (.bptr 120 [3] 3), (.bptr 120 [4] 3)])), (89, (.dat (.bool) (.var 10))), (87, (.dat (.int .i64) (.un .len (.bin .idx (.var 2) (.var 5))))), (88, (.dat (.int .i64) (.var 11))), (86, (.dat (.slice 3) (.bin .idx (.var 2) (.var 5)))), (84, (.dat (.int .i64) (.var 5))), (83, (.sli 192 0 23)), (13, (.dat (.int .i64) (.var 5))), (3, (.sli 192 0 23)), (82, (.tab 68 [(.bptr 120 [2] 3), (.bptr 120 [3] 3), (.bptr 120 [4] 3)])), (81, (.bptr 120 [4] 3)), (80, (.bptr 120 [3] 3)), (79, (.bptr 120 [2] 3)), (78, (.agg 52 [(.dat (.int .i64) (.un (.fld 0) (.bin .idx (.un (.fld 0) (.var 1)) (.var 5)))), (.dat (.int .i64) (.int 0)), (.dat (.int .i64) (.int 0)), (.dat (.int .i64) (.int 0)), (.dat (.int .i64) (.int 0)), (.dat (.int .i64) (.un (.fld 5) (.bin .idx (.un (.fld 0) (.var 1)) (.var 5)))), (.dat (.str) (.un (.fld 6) (.bin .idx (.un (.fld 0) (.var 1)) (.var 5))))])), (15, (.bptr 120 [] 52)), (77, (.dat (.str) (.un (.fld 6) (.bin .idx (.un (.fld 0) (.var 1)) (.var 5))))), (75, (.dat (.int .i64) (.un (.fld 5) (.bin .idx (.un (.fld 0) (.var 1)) (.var 5))))), (73, (.dat (.int .i64) (.un (.fld 0) (.bin .idx (.un (.fld 0) (.var 1)) (.var 5))))), (76, (.bptr 112 [6] 9)), (74, (.bptr 112 [5] 3)), (72, (.bptr 112 [0] 3)), (71, (.dat (.struct 52) (.bin .idx (.un (.fld 0) (.var 1)) (.var 5)))), (14, (.bptr 112 [] 52)), (69, (.dat (.int .i64) (.var 5))), (70, (.dat (.ptr 52) (.un .mkptr (.bin .idx (.un (.fld 0) (.var 1)) (.var 5))))), (65, (.dat (.slice 52) (.un (.fld 0) (.var 1)))), (68, (.dat (.bool) (.bin .ilt (.var 5) (.un .len (.un (.fld 0) (.var 1)))))), (66, (.dat (.int .i64) (.un .len (.un (.fld 0) (.var 1))))), (67, (.dat (.int .i64) (.var 5))), (10, (.bptr 80 [] 25)), (4, (.dat (.int .i64) (.var 3))), (11, (.sli 504 0 3)), (2, (.bptr 16 [] 25))], [(8, (.box 25 (.dat (.struct 25) (.var 1)))), (240, (.arr 3 (.tri .set (.var 4) (.var 3) (.un .len (.un (.fld 0) (.var 1)))) 0)), (1128, (.arr 3 (.var 20) 0)), (120, (.box 52 (.agg 52 [(.dat (.int .i64) (.un (.fld 0) (.bin .idx (.un (.fld 0) (.var 1)) (.var 5)))), (.dat (.int .i64) (.int 0)), (.dat (.int .i64) (.var 12)), (.dat (.int .i64) (.var 13)), (.dat (.int .i64) (.var 14)), (.dat (.int .i64) (.un (.fld 5) (.bin .idx (.un (.fld 0) (.var 1)) (.var 5)))), (.dat (.str) (.un (.fld 6) (.bin .idx (.un (.fld 0) (.var 1)) (.var 5))))]))), (192, (.arr 23 (.var 2) 0)), (112, (.box 52 (.dat (.struct 52) (.bin .idx (.un (.fld 0) (.var 1)) (.var 5))))), (80, (.box 25 (.agg 25 [(.sli 1336 0 52), (.sli 1208 0 3), (.dat (.int .i64) (.int 0))]))), (1336, (.arr 52 (.var 7) 0)), (1208, (.arr 3 (.var 21) 0)), (504, (.arr 3 (.var 9) 0)), (16, (.box 25 (.agg 25 [(.nils 52), (.nils 3), (.dat (.int .i64) (.int 0))])))]⟩, 2)]), (59, [(0, ⟨[(1, (.bptr 8 [] 25)), (5, (.sli 240 0 3)), (12, (.sli 1128 0 3)), (19, (.dat (.int .i64) (.var 15))), (16, (.tab 68 [(.bptr 120 [2] 3), (.bptr 120 [3] 3), (.bptr 120 [4] 3)])), (89, (.dat (.bool) (.var 10))), (87, (.dat (.int .i64) (.un .len (.bin .idx (.var 2) (.var 5))))), (88, (.dat (.int .i64) (.var 11))), (86, (.dat (.slice 3) (.bin .idx (.var 2) (.var 5)))), (84, (.dat (.int .i64) (.var 5))), (83, (.sli 192 0 23)), (13, (.dat (.int .i64) (.var 5))), (3, (.sli 192 0 23)), (82, (.tab 68 [(.bptr 120 [2] 3), (.bptr 120 [3] 3), (.bptr 120 [4] 3)])), (81, (.bptr 120 [4] 3)), (80, (.bptr 120 [3] 3)), (79, (.bptr 120 [2] 3)), (78, (.agg 52 [(.dat (.int .i64) (.un (.fld 0) (.bin .idx (.un (.fld 0) (.var 1)) (.var 5)))), (.dat (.int .i64) (.int 0)), (.dat (.int .i64) (.int 0)), (.dat (.int .i64) (.int 0)), (.dat (.int .i64) (.int 0)), (.dat (.int .i64) (.un (.fld 5) (.bin .idx (.un (.fld 0) (.var 1)) (.var 5)))), (.dat (.str) (.un (.fld 6) (.bin .idx (.un (.fld 0) (.var 1)) (.var 5))))])), (15, (.bptr 120 [] 52)), (77, (.dat (.str) (.un (.fld 6) (.bin .idx (.un (.fld 0) (.var 1)) (.var 5))))), (75, (.dat (.int .i64) (.un (.fld 5) (.bin .idx (.un (.fld 0) (.var 1)) (.var 5))))), (73, (.dat (.int .i64) (.un (.fld 0) (.bin .idx (.un (.fld 0) (.var 1)) (.var 5))))), (76, (.bptr 112 [6] 9)), (74, (.bptr 112 [5] 3)), (72, (.bptr 112 [0] 3)), (71, (.dat (.struct 52) (.bin .idx (.un (.fld 0) (.var 1)) (.var 5)))), (14, (.bptr 112 [] 52)), (69, (.dat (.int .i64) (.var 5))), (70, (.dat (.ptr 52) (.un .mkptr (.bin .idx (.un (.fld 0) (.var 1)) (.var 5))))), (65, (.dat (.slice 52) (.un (.fld 0) (.var 1)))), (68, (.dat (.bool) (.bin .ilt (.var 5) (.un .len (.un (.fld 0) (.var 1)))))), (66, (.dat (.int .i64) (.un .len (.un (.fld 0) (.var 1))))), (67, (.dat (.int .i64) (.var 5))), (10, (.bptr 80 [] 25)), (4, (.dat (.int .i64) (.var 3))), (11, (.sli 504 0 3)), (2, (.bptr 16 [] 25))], [(8, (.box 25 (.dat (.struct 25) (.var 1)))), (240, (.arr 3 (.tri .set (.var 4) (.var 3) (.un .len (.un (.fld 0) (.var 1)))) 0)), (1128, (.arr 3 (.var 6) 0)), (120, (.box 52 (.agg 52 [(.dat (.int .i64) (.un (.fld 0) (.bin .idx (.un (.fld 0) (.var 1)) (.var 5)))), (.dat (.int .i64) (.int 0)), (.dat (.int .i64) (.var 12)), (.dat (.int .i64) (.var 13)), (.dat (.int .i64) (.var 14)), (.dat (.int .i64) (.un (.fld 5) (.bin .idx (.un (.fld 0) (.var 1)) (.var 5)))), (.dat (.str) (.un (.fld 6) (.bin .idx (.un (.fld 0) (.var 1)) (.var 5))))]))), (192, (.arr 23 (.var 2) 0)), (112, (.box 52 (.dat (.struct 52) (.bin .idx (.un (.fld 0) (.var 1)) (.var 5))))), (80, (.box 25 (.agg 25 [(.sli 1336 0 52), (.sli 1208 0 3), (.dat (.int .i64) (.int 0))]))), (1336, (.arr 52 (.var 7) 0)), (1208, (.arr 3 (.var 8) 0)), (504, (.arr 3 (.var 9) 0)), (16, (.box 25 (.agg 25 [(.nils 52), (.nils 3), (.dat (.int .i64) (.int 0))])))]⟩, 1), (11, ⟨[(131, (.dat (.bool) (.var 15))), (1, (.bptr 8 [] 25)), (107, (.dat (.bool) (.var 16))), (5, (.sli 240 0 3)), (106, (.dat (.bool) (.var 17))), (105, (.dat (.int .i64) (.un .len (.var 6)))), (103, (.dat (.int .i64) (.var 18))), (104, (.sli 1128 0 3)), (12, (.sli 1128 0 3)), (19, (.dat (.int .i64) (.var 19))), (16, (.tab 68 [(.bptr 120 [2] 3), (.bptr 120 [3] 3), (.bptr 120 [4] 3)])), (89, (.dat (.bool) (.var 10))), (87, (.dat (.int .i64) (.un .len (.bin .idx (.var 2) (.var 5))))), (88, (.dat (.int .i64) (.var 11))), (86, (.dat (.slice 3) (.bin .idx (.var 2) (.var 5)))), (84, (.dat (.int .i64) (.var 5))), (83, (.sli 192 0 23)), (13, (.dat (.int .i64) (.var 5))), (3, (.sli 192 0 23)), (82, (.tab 68 [(.bptr 120 [2] 3), (.bptr 120 [3] 3), (.bptr 120 [4] 3)])), (81, (.bptr 120 [4] 3)), (80, (.bptr 120 [3] 3)), (79, (.bptr 120 [2] 3)), (78, (.agg 52 [(.dat (.int .i64) (.un (.fld 0) (.bin .idx (.un (.fld 0) (.var 1)) (.var 5)))), (.dat (.int .i64) (.int 0)), (.dat (.int .i64) (.int 0)), (.dat (.int .i64) (.int 0)), (.dat (.int .i64) (.int 0)), (.dat (.int .i64) (.un (.fld 5) (.bin .idx (.un (.fld 0) (.var 1)) (.var 5)))), (.dat (.str) (.un (.fld 6) (.bin .idx (.un (.fld 0) (.var 1)) (.var 5))))])), (15, (.bptr 120 [] 52)), (77, (.dat (.str) (.un (.fld 6) (.bin .idx (.un (.fld 0) (.var 1)) (.var 5))))), (75, (.dat (.int .i64) (.un (.fld 5) (.bin .idx (.un (.fld 0) (.var 1)) (.var 5))))), (73, (.dat (.int .i64) (.un (.fld 0) (.bin .idx (.un (.fld 0) (.var 1)) (.var 5))))), (76, (.bptr 112 [6] 9)), (74, (.bptr 112 [5] 3)), (72, (.bptr 112 [0] 3)), (71, (.dat (.struct 52) (.bin .idx (.un (.fld 0) (.var 1)) (.var 5)))), (14, (.bptr 112 [] 52)), (69, (.dat (.int .i64) (.var 5))), (70, (.dat (.ptr 52) (.un .mkptr (.bin .idx (.un (.fld 0) (.var 1)) (.var 5))))), (65, (.dat (.slice 52) (.un (.fld 0) (.var 1)))), (68, (.dat (.bool) (.bin .ilt (.var 5) (.un .len (.un (.fld 0) (.var 1)))))), (66, (.dat (.int .i64) (.un .len (.un (.fld 0) (.var 1))))), (67, (.dat (.int .i64) (.var 5))), (10, (.bptr 80 [] 25)), (4, (.dat (.int .i64) (.var 3))), (11, (.sli 504 0 3)), (2, (.bptr 16 [] 25))], [(8, (.box 25 (.dat (.struct 25) (.var 1)))), (240, (.arr 3 (.tri .set (.var 4) (.var 3) (.un .len (.un (.fld 0) (.var 1)))) 0)), (1128, (.arr 3 (.var 6) 0)), (120, (.box 52 (.agg 52 [(.dat (.int .i64) (.un (.fld 0) (.bin .idx (.un (.fld 0) (.var 1)) (.var 5)))), (.dat (.int .i64) (.int 0)), (.dat (.int .i64) (.var 12)), (.dat (.int .i64) (.var 13)), (.dat (.int .i64) (.var 14)), (.dat (.int .i64) (.un (.fld 5) (.bin .idx (.un (.fld 0) (.var 1)) (.var 5)))), (.dat (.str) (.un (.fld 6) (.bin .idx (.un (.fld 0) (.var 1)) (.var 5))))]))), (192, (.arr 23 (.var 2) 0)), (112, (.box 52 (.dat (.struct 52) (.bin .idx (.un (.fld 0) (.var 1)) (.var 5))))), (80, (.box 25 (.agg 25 [(.sli 1336 0 52), (.sli 1208 0 3), (.dat (.int .i64) (.int 0))]))), (1336, (.arr 52 (.var 7) 0)), (1208, (.arr 3 (.var 8) 0)), (504, (.arr 3 (.var 9) 0)), (16, (.box 25 (.agg 25 [(.nils 52), (.nils 3), (.dat (.int .i64) (.int 0))])))]⟩, 5)]), (49, [(0, ⟨[(1, (.bptr 8 [] 25)), (5, (.sli 240 0 3)), (12, (.sli 1128 0 3)), (16, (.tab 68 [(.bptr 120 [2] 3), (.bptr 120 [3] 3), (.bptr 120 [4] 3)])), (87, (.dat (.int .i64) (.un .len (.bin .idx (.var 2) (.var 5))))), (88, (.dat (.int .i64) (.var 10))), (86, (.dat (.slice 3) (.bin .idx (.var 2) (.var 5)))), (84, (.dat (.int .i64) (.var 5))), (83, (.sli 192 0 23)), (13, (.dat (.int .i64) (.var 5))), (3, (.sli 192 0 23)), (82, (.tab 68 [(.bptr 120 [2] 3), (.bptr 120 [3] 3), (.bptr 120 [4] 3)])), (81, (.bptr 120 [4] 3)), (80, (.bptr 120 [3] 3)), (79, (.bptr 120 [2] 3)), (78, (.agg 52 [(.dat (.int .i64) (.un (.fld 0) (.bin .idx (.un (.fld 0) (.var 1)) (.var 5)))), (.dat (.int .i64) (.int 0)), (.dat (.int .i64) (.int 0)), (.dat (.int .i64) (.int 0)), (.dat (.int .i64) (.int 0)), (.dat (.int .i64) (.un (.fld 5) (.bin .idx (.un (.fld 0) (.var 1)) (.var 5)))), (.dat (.str) (.un (.fld 6) (.bin .idx (.un (.fld 0) (.var 1)) (.var 5))))])), (15, (.bptr 120 [] 52)), (77, (.dat (.str) (.un (.fld 6) (.bin .idx (.un (.fld 0) (.var 1)) (.var 5))))), (75, (.dat (.int .i64) (.un (.fld 5) (.bin .idx (.un (.fld 0) (.var 1)) (.var 5))))), (73, (.dat (.int .i64) (.un (.fld 0) (.bin .idx (.un (.fld 0) (.var 1)) (.var 5))))), (76, (.bptr 112 [6] 9)), (74, (.bptr 112 [5] 3)), (72, (.bptr 112 [0] 3)), (71, (.dat (.struct 52) (.bin .idx (.un (.fld 0) (.var 1)) (.var 5)))), (14, (.bptr 112 [] 52)), (69, (.dat (.int .i64) (.var 5))), (70, (.dat (.ptr 52) (.un .mkptr (.bin .idx (.un (.fld 0) (.var 1)) (.var 5))))), (65, (.dat (.slice 52) (.un (.fld 0) (.var 1)))), (68, (.dat (.bool) (.bin .ilt (.var 5) (.un .len (.un (.fld 0) (.var 1)))))), (66, (.dat (.int .i64) (.un .len (.un (.fld 0) (.var 1))))), (67, (.dat (.int .i64) (.var 5))), (10, (.bptr 80 [] 25)), (4, (.dat (.int .i64) (.var 3))), (11, (.sli 504 0 3)), (2, (.bptr 16 [] 25))], [(8, (.box 25 (.dat (.struct 25) (.var 1)))), (240, (.arr 3 (.tri .set (.var 4) (.var 3) (.un .len (.un (.fld 0) (.var 1)))) 0)), (1128, (.arr 3 (.var 6) 0)), (120, (.box 52 (.agg 52 [(.dat (.int .i64) (.un (.fld 0) (.bin .idx (.un (.fld 0) (.var 1)) (.var 5)))), (.dat (.int .i64) (.int 0)), (.dat (.int .i64) (.var 11)), (.dat (.int .i64) (.var 12)), (.dat (.int .i64) (.var 13)), (.dat (.int .i64) (.un (.fld 5) (.bin .idx (.un (.fld 0) (.var 1)) (.var 5)))), (.dat (.str) (.un (.fld 6) (.bin .idx (.un (.fld 0) (.var 1)) (.var 5))))]))), (192, (.arr 23 (.var 2) 0)), (112, (.box 52 (.dat (.struct 52) (.bin .idx (.un (.fld 0) (.var 1)) (.var 5))))), (80, (.box 25 (.agg 25 [(.sli 1336 0 52), (.sli 1208 0 3), (.dat (.int .i64) (.int 0))]))), (1336, (.arr 52 (.var 7) 0)), (1208, (.arr 3 (.var 8) 0)), (504, (.arr 3 (.var 9) 0)), (16, (.box 25 (.agg 25 [(.nils 52), (.nils 3), (.dat (.int .i64) (.int 0))])))]⟩, 4), (9, ⟨[(1, (.bptr 8 [] 25)), (5, (.sli 240 0 3)), (12, (.sli 1128 0 3)), (16, (.tab 68 [(.bptr 120 [2] 3), (.bptr 120 [3] 3), (.bptr 120 [4] 3)])), (89, (.dat (.bool) (.var 10))), (87, (.dat (.int .i64) (.un .len (.bin .idx (.var 2) (.var 5))))), (88, (.dat (.int .i64) (.var 11))), (86, (.dat (.slice 3) (.bin .idx (.var 2) (.var 5)))), (84, (.dat (.int .i64) (.var 5))), (83, (.sli 192 0 23)), (13, (.dat (.int .i64) (.var 5))), (3, (.sli 192 0 23)), (82, (.tab 68 [(.bptr 120 [2] 3), (.bptr 120 [3] 3), (.bptr 120 [4] 3)])), (81, (.bptr 120 [4] 3)), (80, (.bptr 120 [3] 3)), (79, (.bptr 120 [2] 3)), (78, (.agg 52 [(.dat (.int .i64) (.un (.fld 0) (.bin .idx (.un (.fld 0) (.var 1)) (.var 5)))), (.dat (.int .i64) (.int 0)), (.dat (.int .i64) (.int 0)), (.dat (.int .i64) (.int 0)), (.dat (.int .i64) (.int 0)), (.dat (.int .i64) (.un (.fld 5) (.bin .idx (.un (.fld 0) (.var 1)) (.var 5)))), (.dat (.str) (.un (.fld 6) (.bin .idx (.un (.fld 0) (.var 1)) (.var 5))))])), (15, (.bptr 120 [] 52)), (77, (.dat (.str) (.un (.fld 6) (.bin .idx (.un (.fld 0) (.var 1)) (.var 5))))), (75, (.dat (.int .i64) (.un (.fld 5) (.bin .idx (.un (.fld 0) (.var 1)) (.var 5))))), (73, (.dat (.int .i64) (.un (.fld 0) (.bin .idx (.un (.fld 0) (.var 1)) (.var 5))))), (76, (.bptr 112 [6] 9)), (74, (.bptr 112 [5] 3)), (72, (.bptr 112 [0] 3)), (71, (.dat (.struct 52) (.bin .idx (.un (.fld 0) (.var 1)) (.var 5)))), (14, (.bptr 112 [] 52)), (69, (.dat (.int .i64) (.var 5))), (70, (.dat (.ptr 52) (.un .mkptr (.bin .idx (.un (.fld 0) (.var 1)) (.var 5))))), (65, (.dat (.slice 52) (.un (.fld 0) (.var 1)))), (68, (.dat (.bool) (.bin .ilt (.var 5) (.un .len (.un (.fld 0) (.var 1)))))), (66, (.dat (.int .i64) (.un .len (.un (.fld 0) (.var 1))))), (67, (.dat (.int .i64) (.var 5))), (10, (.bptr 80 [] 25)), (4, (.dat (.int .i64) (.var 3))), (11, (.sli 504 0 3)), (2, (.bptr 16 [] 25))], [(8, (.box 25 (.dat (.struct 25) (.var 1)))), (240, (.arr 3 (.tri .set (.var 4) (.var 3) (.un .len (.un (.fld 0) (.var 1)))) 0)), (1128, (.arr 3 (.var 6) 0)), (120, (.box 52 (.agg 52 [(.dat (.int .i64) (.un (.fld 0) (.bin .idx (.un (.fld 0) (.var 1)) (.var 5)))), (.dat (.int .i64) (.int 0)), (.dat (.int .i64) (.var 12)), (.dat (.int .i64) (.var 13)), (.dat (.int .i64) (.var 14)), (.dat (.int .i64) (.un (.fld 5) (.bin .idx (.un (.fld 0) (.var 1)) (.var 5)))), (.dat (.str) (.un (.fld 6) (.bin .idx (.un (.fld 0) (.var 1)) (.var 5))))]))), (192, (.arr 23 (.var 2) 0)), (112, (.box 52 (.dat (.struct 52) (.bin .idx (.un (.fld 0) (.var 1)) (.var 5))))), (80, (.box 25 (.agg 25 [(.sli 1336 0 52), (.sli 1208 0 3), (.dat (.int .i64) (.int 0))]))), (1336, (.arr 52 (.var 7) 0)), (1208, (.arr 3 (.var 8) 0)), (504, (.arr 3 (.var 9) 0)), (16, (.box 25 (.agg 25 [(.nils 52), (.nils 3), (.dat (.int .i64) (.int 0))])))]⟩, 5)]), (11, [(0, ⟨[(31, (.sli 192 0 23)), (32, (.dat (.int .i64) (.un .len (.var 2)))), (33, (.dat (.int .i64) (.var 4))), (3, (.sli 192 0 23)), (1, (.bptr 8 [] 25)), (4, (.dat (.int .i64) (.var 3))), (5, (.sli 240 0 3)), (2, (.bptr 16 [] 25))], [(192, (.arr 23 (.var 2) 0)), (8, (.box 25 (.dat (.struct 25) (.var 1)))), (240, (.arr 3 (.var 5) 0)), (16, (.box 25 (.agg 25 [(.nils 52), (.nils 3), (.dat (.int .i64) (.int 0))])))]⟩, 2), (3, ⟨[(3, (.sli 192 0 23)), (1, (.bptr 8 [] 25)), (4, (.dat (.int .i64) (.var 3))), (5, (.sli 240 0 3)), (2, (.bptr 16 [] 25))], [(192, (.arr 23 (.var 2) 0)), (8, (.box 25 (.dat (.struct 25) (.var 1)))), (240, (.arr 3 (.var 4) 0)), (16, (.box 25 (.agg 25 [(.nils 52), (.nils 3), (.dat (.int .i64) (.int 0))])))]⟩, 1)]), (19, [(0, ⟨[(43, (.dat (.int .i64) (.un .len (.bin .idx (.var 2) (.var 4))))), (44, (.dat (.int .i64) (.var 6))), (42, (.dat (.slice 3) (.bin .idx (.var 2) (.var 4)))), (7, (.dat (.slice 3) (.bin .idx (.var 2) (.var 4)))), (40, (.dat (.int .i64) (.var 4))), (39, (.dat (.int .i64) (.var 4))), (38, (.sli 240 0 3)), (6, (.dat (.int .i64) (.var 4))), (37, (.dat (.slice 3) (.bin .idx (.var 2) (.var 4)))), (35, (.dat (.int .i64) (.var 4))), (31, (.sli 192 0 23)), (34, (.dat (.bool) (.bin .ilt (.var 4) (.un .len (.var 2))))), (32, (.dat (.int .i64) (.un .len (.var 2)))), (33, (.dat (.int .i64) (.var 4))), (3, (.sli 192 0 23)), (1, (.bptr 8 [] 25)), (4, (.dat (.int .i64) (.var 3))), (5, (.sli 240 0 3)), (2, (.bptr 16 [] 25))], [(240, (.arr 3 (.var 7) 0)), (192, (.arr 23 (.var 2) 0)), (8, (.box 25 (.dat (.struct 25) (.var 1)))), (16, (.box 25 (.agg 25 [(.nils 52), (.nils 3), (.dat (.int .i64) (.int 0))])))]⟩, 2), (5, ⟨[(45, (.dat (.bool) (.var 6))), (43, (.dat (.int .i64) (.un .len (.bin .idx (.var 2) (.var 4))))), (44, (.dat (.int .i64) (.var 7))), (42, (.dat (.slice 3) (.bin .idx (.var 2) (.var 4)))), (7, (.dat (.slice 3) (.bin .idx (.var 2) (.var 4)))), (40, (.dat (.int .i64) (.var 4))), (39, (.dat (.int .i64) (.var 4))), (38, (.sli 240 0 3)), (6, (.dat (.int .i64) (.var 4))), (37, (.dat (.slice 3) (.bin .idx (.var 2) (.var 4)))), (35, (.dat (.int .i64) (.var 4))), (31, (.sli 192 0 23)), (34, (.dat (.bool) (.bin .ilt (.var 4) (.un .len (.var 2))))), (32, (.dat (.int .i64) (.un .len (.var 2)))), (33, (.dat (.int .i64) (.var 4))), (3, (.sli 192 0 23)), (1, (.bptr 8 [] 25)), (4, (.dat (.int .i64) (.var 3))), (5, (.sli 240 0 3)), (2, (.bptr 16 [] 25))], [(240, (.arr 3 (.var 8) 0)), (192, (.arr 23 (.var 2) 0)), (8, (.box 25 (.dat (.struct 25) (.var 1)))), (16, (.box 25 (.agg 25 [(.nils 52), (.nils 3), (.dat (.int .i64) (.int 0))])))]⟩, 3)])]
def il20 : IL := (.call [] 1 19 [(.var 0)] (.call [] 2 35 [(.var 1)] (.chk (.bin (.ble 34359738368) (.un .len (.un (.fld 0) (.var 1))) (.un .len (.un (.fld 0) (.var 1)))) (.bindc (.loop [(.int 0), (.bin .rep (.un .len (.un (.fld 0) (.var 1))) (.int 0))] (.ite (.bin .ilt (.var 4) (.un .len (.var 2))) (.chk (.bin .inb (.un .len (.var 2)) (.var 4)) (.chk (.bin .inb (.un .len (.var 5)) (.var 4)) (.bindc (.loop [(.int 0), (.tri .set (.var 5) (.var 4) (.var 4))] (.ite (.bin .ilt (.var 6) (.un .len (.bin .idx (.var 2) (.var 4)))) (.chk (.bin .inb (.un .len (.bin .idx (.var 2) (.var 4))) (.var 6)) (.chk (.bin .inb (.un .len (.var 7)) (.bin .idx (.bin .idx (.var 2) (.var 4)) (.var 6))) (.out 0 [(.bin (.add .i64) (.var 6) (.int 1)), (.tri .set (.var 7) (.bin .idx (.bin .idx (.var 2) (.var 4)) (.var 6)) (.var 4))]))) (.out 1245192 [(.bin .ilt (.var 6) (.un .len (.bin .idx (.var 2) (.var 4)))), (.var 6), (.var 7)]))) 1245192 3 (.out 0 [(.bin (.add .i64) (.var 4) (.int 1)), (.var 8)])))) (.out 720902 [(.var 5)]))) 720902 1 (.chk (.bin .inb (.un .len (.var 4)) (.var 3)) (.chk (.bin (.ble 34359738368) (.un .len (.un (.fld 0) (.var 1))) (.un .len (.un (.fld 0) (.var 1)))) (.bindc (.loop [(.int 0), .lnil, .lnil, .lnil, (.bin .rep (.un .len (.un (.fld 0) (.var 1))) (.int 0))] (.ite (.bin .ilt (.var 5) (.un .len (.un (.fld 0) (.var 1)))) (.chk (.bin .inb (.un .len (.un (.fld 0) (.var 1))) (.var 5)) (.chk (.bin .inb (.un .len (.var 2)) (.var 5)) (.bindc (.loop [(.int 0), (.int 0), (.int 0), (.int 0)] (.ite (.bin .ilt (.var 10) (.un .len (.bin .idx (.var 2) (.var 5)))) (.chk (.bin .inb (.un .len (.bin .idx (.var 2) (.var 5))) (.var 10)) (.chk (.bin .inb (.int 3) (.var 10)) (.chk (.bin .inb (.un .len (.var 9)) (.bin .idx (.bin .idx (.var 2) (.var 5)) (.var 10))) (.out 0 [(.bin (.add .i64) (.var 10) (.int 1)), (.tri .ite (.bin .ieq (.var 10) (.int 0)) (.bin .idx (.var 9) (.bin .idx (.bin .idx (.var 2) (.var 5)) (.var 10))) (.var 11)), (.tri .ite (.bin .ieq (.var 10) (.int 1)) (.bin .idx (.var 9) (.bin .idx (.bin .idx (.var 2) (.var 5)) (.var 10))) (.var 12)), (.tri .ite (.bin .ieq (.var 10) (.int 2)) (.bin .idx (.var 9) (.bin .idx (.bin .idx (.var 2) (.var 5)) (.var 10))) (.var 13))])))) (.out 3211276 [(.bin .ilt (.var 10) (.un .len (.bin .idx (.var 2) (.var 5)))), (.var 10), (.var 11), (.var 12), (.var 13)]))) 3211276 5 (.bindc (.loop [(.int 0)] (.chk (.tri .ite (.bin .ilt (.var 15) (.un .len (.var 6))) (.bin .inb (.un .len (.var 6)) (.var 15)) (.bool true)) (.chk (.tri .ite (.bin .ilt (.var 15) (.un .len (.var 6))) (.bin .inb (.un .len (.tri .set (.var 4) (.var 3) (.un .len (.un (.fld 0) (.var 1))))) (.bin .idx (.var 6) (.var 15))) (.bool true)) (.chk (.tri .ite (.bin .ilt (.var 15) (.un .len (.var 6))) (.tri .ite (.bin .ilt (.var 5) (.bin .idx (.tri .set (.var 4) (.var 3) (.un .len (.un (.fld 0) (.var 1)))) (.bin .idx (.var 6) (.var 15)))) (.bool true) (.bin .inb (.un .len (.var 8)) (.var 15))) (.bool true)) (.chk (.tri .ite (.bin .ilt (.var 15) (.un .len (.var 6))) (.tri .ite (.bin .ilt (.var 5) (.bin .idx (.tri .set (.var 4) (.var 3) (.un .len (.un (.fld 0) (.var 1)))) (.bin .idx (.var 6) (.var 15)))) (.bool true) (.bin .inb (.un .len (.un (.fld 1) (.var 1))) (.un (.fld 1) (.bin .idx (.un (.fld 0) (.var 1)) (.var 5))))) (.bool true)) (.ite (.bin .and (.bin .ilt (.var 15) (.un .len (.var 6))) (.bin .or (.bin .ilt (.var 5) (.bin .idx (.tri .set (.var 4) (.var 3) (.un .len (.un (.fld 0) (.var 1)))) (.bin .idx (.var 6) (.var 15)))) (.un .not (.bin .ieq (.bin .idx (.var 8) (.var 15)) (.bin .idx (.un (.fld 1) (.var 1)) (.un (.fld 1) (.bin .idx (.un (.fld 0) (.var 1)) (.var 5)))))))) (.out 0 [(.bin (.add .i64) (.var 15) (.int 1))]) (.out 3866638 [(.bin .and (.bin .ilt (.var 15) (.un .len (.var 6))) (.bin .or (.bin .ilt (.var 5) (.bin .idx (.tri .set (.var 4) (.var 3) (.un .len (.un (.fld 0) (.var 1)))) (.bin .idx (.var 6) (.var 15)))) (.un .not (.bin .ieq (.bin .idx (.var 8) (.var 15)) (.bin .idx (.un (.fld 1) (.var 1)) (.un (.fld 1) (.bin .idx (.un (.fld 0) (.var 1)) (.var 5)))))))), (.bin .ilt (.var 15) (.un .len (.var 6))), (.bin .ilt (.var 15) (.un .len (.var 6))), (.var 15), (.var 15)]))))))) 3866638 5 (.bindc (.ite (.bin .ieq (.var 19) (.un .len (.var 6))) (.chk (.bin (.fits 34359738368) (.un .len (.var 6)) (.un .len (.bin .cons (.var 5) .lnil))) (.chk (.bin .inb (.un .len (.un (.fld 1) (.var 1))) (.un (.fld 1) (.bin .idx (.un (.fld 0) (.var 1)) (.var 5)))) (.chk (.bin (.fits 34359738368) (.un .len (.var 8)) (.un .len (.bin .cons (.bin .idx (.un (.fld 1) (.var 1)) (.un (.fld 1) (.bin .idx (.un (.fld 0) (.var 1)) (.var 5)))) .lnil))) (.out 4325380 [(.bin .snoc (.var 6) (.var 5)), (.bin .snoc (.var 8) (.bin .idx (.un (.fld 1) (.var 1)) (.un (.fld 1) (.bin .idx (.un (.fld 0) (.var 1)) (.var 5)))))])))) (.out 4325380 [(.var 6), (.var 8)])) 4325380 2 (.chk (.bin .inb (.un .len (.var 20)) (.var 19)) (.chk (.bin .inb (.un .len (.var 9)) (.var 5)) (.chk (.bin (.fits 34359738368) (.un .len (.var 7)) (.un .len (.bin .cons (.un .mkagg (.bin .cons (.un (.fld 0) (.bin .idx (.un (.fld 0) (.var 1)) (.var 5))) (.bin .cons (.var 19) (.bin .cons (.var 12) (.bin .cons (.var 13) (.bin .cons (.var 14) (.bin .cons (.un (.fld 5) (.bin .idx (.un (.fld 0) (.var 1)) (.var 5))) (.bin .cons (.un (.fld 6) (.bin .idx (.un (.fld 0) (.var 1)) (.var 5))) .lnil)))))))) .lnil))) (.out 0 [(.bin (.add .i64) (.var 5) (.int 1)), (.tri .set (.var 20) (.var 19) (.var 5)), (.bin .snoc (.var 7) (.un .mkagg (.bin .cons (.un (.fld 0) (.bin .idx (.un (.fld 0) (.var 1)) (.var 5))) (.bin .cons (.var 19) (.bin .cons (.var 12) (.bin .cons (.var 13) (.bin .cons (.var 14) (.bin .cons (.un (.fld 5) (.bin .idx (.un (.fld 0) (.var 1)) (.var 5))) (.bin .cons (.un (.fld 6) (.bin .idx (.un (.fld 0) (.var 1)) (.var 5))) .lnil))))))))), (.var 21), (.tri .set (.var 9) (.var 5) (.var 19))]))))))))) (.out 2555914 [(.var 7), (.var 8), (.var 9)]))) 2555914 3 (.chk (.bin .inb (.un .len (.var 7)) (.var 3)) (.out 2 [(.un .mkagg (.bin .cons (.var 5) (.bin .cons (.var 6) (.bin .cons (.bin .idx (.var 7) (.var 3)) .lnil))))])))))))))
theorem d20 : decompF C ⟨[.struct 25], [.struct 25], [false]⟩ Tryd.f20 h20 = some il20 := by kernel_rfl
theorem e20 (R : Fns) (a0 : D) : den C.G R il20 [a0] =
    ((R 19 [a0]).bind fun r0 =>
    (R 35 [(at_ r0 0)]).bind fun r1 =>
    if (D.asB (U2.ev (.ble 34359738368) (D.int (((D.asL (at_ (D.asA (at_ r0 0)) 0))).length : Int)) (D.int (((D.asL (at_ (D.asA (at_ r0 0)) 0))).length : Int)))) then
    (loopL (fun s3 =>
        if (decide ((D.asI (at_ s3 0)) < (((D.asL (at_ r1 0))).length : Int))) then
          if (decide (0 ≤ (D.asI (at_ s3 0)) ∧ (D.asI (at_ s3 0)) < (((D.asL (at_ r1 0))).length : Int))) then
          if (decide (0 ≤ (D.asI (at_ s3 0)) ∧ (D.asI (at_ s3 0)) < (((D.asL (at_ s3 1))).length : Int))) then
          (loopL (fun s5 =>
              if (decide ((D.asI (at_ s5 0)) < (((D.asL (at_ (D.asL (at_ r1 0)) (Int.toNat (D.asI (at_ s3 0)))))).length : Int))) then
                if (decide (0 ≤ (D.asI (at_ s5 0)) ∧ (D.asI (at_ s5 0)) < (((D.asL (at_ (D.asL (at_ r1 0)) (Int.toNat (D.asI (at_ s3 0)))))).length : Int))) then
                if (decide (0 ≤ (D.asI (at_ (D.asL (at_ (D.asL (at_ r1 0)) (Int.toNat (D.asI (at_ s3 0))))) (Int.toNat (D.asI (at_ s5 0))))) ∧ (D.asI (at_ (D.asL (at_ (D.asL (at_ r1 0)) (Int.toNat (D.asI (at_ s3 0))))) (Int.toNat (D.asI (at_ s5 0))))) < (((D.asL (at_ s5 1))).length : Int))) then
                some (0, [(D.int (IntKind.wrap .i64 ((D.asI (at_ s5 0)) + (1 : Int)))), (D.list (((D.asL (at_ s5 1))).set (Int.toNat (D.asI (at_ (D.asL (at_ (D.asL (at_ r1 0)) (Int.toNat (D.asI (at_ s3 0))))) (Int.toNat (D.asI (at_ s5 0)))))) (at_ s3 0)))])
                else none
                else none
              else
                some (1245192, [(D.bool (decide ((D.asI (at_ s5 0)) < (((D.asL (at_ (D.asL (at_ r1 0)) (Int.toNat (D.asI (at_ s3 0)))))).length : Int)))), (at_ s5 0), (at_ s5 1)])) [(D.int 0), (D.list (((D.asL (at_ s3 1))).set (Int.toNat (D.asI (at_ s3 0))) (at_ s3 0)))]).bind fun o4 =>
          if o4.1 = 1245192 then
            some (0, [(D.int (IntKind.wrap .i64 ((D.asI (at_ s3 0)) + (1 : Int)))), (at_ o4.2 2)])
          else some o4
          else none
          else none
        else
          some (720902, [(at_ s3 1)])) [(D.int 0), (D.list (List.replicate (Int.toNat (((D.asL (at_ (D.asA (at_ r0 0)) 0))).length : Int)) (D.int 0)))]).bind fun o2 =>
    if o2.1 = 720902 then
      if (decide (0 ≤ (D.asI (at_ r1 1)) ∧ (D.asI (at_ r1 1)) < (((D.asL (at_ o2.2 0))).length : Int))) then
      if (D.asB (U2.ev (.ble 34359738368) (D.int (((D.asL (at_ (D.asA (at_ r0 0)) 0))).length : Int)) (D.int (((D.asL (at_ (D.asA (at_ r0 0)) 0))).length : Int)))) then
      (loopL (fun s4 =>
          if (decide ((D.asI (at_ s4 0)) < (((D.asL (at_ (D.asA (at_ r0 0)) 0))).length : Int))) then
            if (decide (0 ≤ (D.asI (at_ s4 0)) ∧ (D.asI (at_ s4 0)) < (((D.asL (at_ (D.asA (at_ r0 0)) 0))).length : Int))) then
            if (decide (0 ≤ (D.asI (at_ s4 0)) ∧ (D.asI (at_ s4 0)) < (((D.asL (at_ r1 0))).length : Int))) then
            (loopL (fun s6 =>
                if (decide ((D.asI (at_ s6 0)) < (((D.asL (at_ (D.asL (at_ r1 0)) (Int.toNat (D.asI (at_ s4 0)))))).length : Int))) then
                  if (decide (0 ≤ (D.asI (at_ s6 0)) ∧ (D.asI (at_ s6 0)) < (((D.asL (at_ (D.asL (at_ r1 0)) (Int.toNat (D.asI (at_ s4 0)))))).length : Int))) then
                  if (decide (0 ≤ (D.asI (at_ s6 0)) ∧ (D.asI (at_ s6 0)) < (3 : Int))) then
                  if (decide (0 ≤ (D.asI (at_ (D.asL (at_ (D.asL (at_ r1 0)) (Int.toNat (D.asI (at_ s4 0))))) (Int.toNat (D.asI (at_ s6 0))))) ∧ (D.asI (at_ (D.asL (at_ (D.asL (at_ r1 0)) (Int.toNat (D.asI (at_ s4 0))))) (Int.toNat (D.asI (at_ s6 0))))) < (((D.asL (at_ s4 4))).length : Int))) then
                  some (0, [(D.int (IntKind.wrap .i64 ((D.asI (at_ s6 0)) + (1 : Int)))), (if ((D.asI (at_ s6 0)) == (0 : Int)) then (at_ (D.asL (at_ s4 4)) (Int.toNat (D.asI (at_ (D.asL (at_ (D.asL (at_ r1 0)) (Int.toNat (D.asI (at_ s4 0))))) (Int.toNat (D.asI (at_ s6 0))))))) else (at_ s6 1)), (if ((D.asI (at_ s6 0)) == (1 : Int)) then (at_ (D.asL (at_ s4 4)) (Int.toNat (D.asI (at_ (D.asL (at_ (D.asL (at_ r1 0)) (Int.toNat (D.asI (at_ s4 0))))) (Int.toNat (D.asI (at_ s6 0))))))) else (at_ s6 2)), (if ((D.asI (at_ s6 0)) == (2 : Int)) then (at_ (D.asL (at_ s4 4)) (Int.toNat (D.asI (at_ (D.asL (at_ (D.asL (at_ r1 0)) (Int.toNat (D.asI (at_ s4 0))))) (Int.toNat (D.asI (at_ s6 0))))))) else (at_ s6 3))])
                  else none
                  else none
                  else none
                else
                  some (3211276, [(D.bool (decide ((D.asI (at_ s6 0)) < (((D.asL (at_ (D.asL (at_ r1 0)) (Int.toNat (D.asI (at_ s4 0)))))).length : Int)))), (at_ s6 0), (at_ s6 1), (at_ s6 2), (at_ s6 3)])) [(D.int 0), (D.int 0), (D.int 0), (D.int 0)]).bind fun o5 =>
            if o5.1 = 3211276 then
              (loopL (fun s7 =>
                  if (D.asB (if (decide ((D.asI (at_ s7 0)) < (((D.asL (at_ s4 1))).length : Int))) then (D.bool (decide (0 ≤ (D.asI (at_ s7 0)) ∧ (D.asI (at_ s7 0)) < (((D.asL (at_ s4 1))).length : Int)))) else (D.bool true))) then
                  if (D.asB (if (decide ((D.asI (at_ s7 0)) < (((D.asL (at_ s4 1))).length : Int))) then (D.bool (decide (0 ≤ (D.asI (at_ (D.asL (at_ s4 1)) (Int.toNat (D.asI (at_ s7 0))))) ∧ (D.asI (at_ (D.asL (at_ s4 1)) (Int.toNat (D.asI (at_ s7 0))))) < (((((D.asL (at_ o2.2 0))).set (Int.toNat (D.asI (at_ r1 1))) (D.int (((D.asL (at_ (D.asA (at_ r0 0)) 0))).length : Int)))).length : Int)))) else (D.bool true))) then
                  if (D.asB (if (decide ((D.asI (at_ s7 0)) < (((D.asL (at_ s4 1))).length : Int))) then (if (decide ((D.asI (at_ s4 0)) < (D.asI (at_ (((D.asL (at_ o2.2 0))).set (Int.toNat (D.asI (at_ r1 1))) (D.int (((D.asL (at_ (D.asA (at_ r0 0)) 0))).length : Int))) (Int.toNat (D.asI (at_ (D.asL (at_ s4 1)) (Int.toNat (D.asI (at_ s7 0)))))))))) then (D.bool true) else (D.bool (decide (0 ≤ (D.asI (at_ s7 0)) ∧ (D.asI (at_ s7 0)) < (((D.asL (at_ s4 3))).length : Int))))) else (D.bool true))) then
                  if (D.asB (if (decide ((D.asI (at_ s7 0)) < (((D.asL (at_ s4 1))).length : Int))) then (if (decide ((D.asI (at_ s4 0)) < (D.asI (at_ (((D.asL (at_ o2.2 0))).set (Int.toNat (D.asI (at_ r1 1))) (D.int (((D.asL (at_ (D.asA (at_ r0 0)) 0))).length : Int))) (Int.toNat (D.asI (at_ (D.asL (at_ s4 1)) (Int.toNat (D.asI (at_ s7 0)))))))))) then (D.bool true) else (D.bool (decide (0 ≤ (D.asI (at_ (D.asA (at_ (D.asL (at_ (D.asA (at_ r0 0)) 0)) (Int.toNat (D.asI (at_ s4 0))))) 1)) ∧ (D.asI (at_ (D.asA (at_ (D.asL (at_ (D.asA (at_ r0 0)) 0)) (Int.toNat (D.asI (at_ s4 0))))) 1)) < (((D.asL (at_ (D.asA (at_ r0 0)) 1))).length : Int))))) else (D.bool true))) then
                  if ((decide ((D.asI (at_ s7 0)) < (((D.asL (at_ s4 1))).length : Int))) && ((decide ((D.asI (at_ s4 0)) < (D.asI (at_ (((D.asL (at_ o2.2 0))).set (Int.toNat (D.asI (at_ r1 1))) (D.int (((D.asL (at_ (D.asA (at_ r0 0)) 0))).length : Int))) (Int.toNat (D.asI (at_ (D.asL (at_ s4 1)) (Int.toNat (D.asI (at_ s7 0)))))))))) || (!((D.asI (at_ (D.asL (at_ s4 3)) (Int.toNat (D.asI (at_ s7 0))))) == (D.asI (at_ (D.asL (at_ (D.asA (at_ r0 0)) 1)) (Int.toNat (D.asI (at_ (D.asA (at_ (D.asL (at_ (D.asA (at_ r0 0)) 0)) (Int.toNat (D.asI (at_ s4 0))))) 1))))))))) then
                    some (0, [(D.int (IntKind.wrap .i64 ((D.asI (at_ s7 0)) + (1 : Int))))])
                  else
                    some (3866638, [(D.bool ((decide ((D.asI (at_ s7 0)) < (((D.asL (at_ s4 1))).length : Int))) && ((decide ((D.asI (at_ s4 0)) < (D.asI (at_ (((D.asL (at_ o2.2 0))).set (Int.toNat (D.asI (at_ r1 1))) (D.int (((D.asL (at_ (D.asA (at_ r0 0)) 0))).length : Int))) (Int.toNat (D.asI (at_ (D.asL (at_ s4 1)) (Int.toNat (D.asI (at_ s7 0)))))))))) || (!((D.asI (at_ (D.asL (at_ s4 3)) (Int.toNat (D.asI (at_ s7 0))))) == (D.asI (at_ (D.asL (at_ (D.asA (at_ r0 0)) 1)) (Int.toNat (D.asI (at_ (D.asA (at_ (D.asL (at_ (D.asA (at_ r0 0)) 0)) (Int.toNat (D.asI (at_ s4 0))))) 1)))))))))), (D.bool (decide ((D.asI (at_ s7 0)) < (((D.asL (at_ s4 1))).length : Int)))), (D.bool (decide ((D.asI (at_ s7 0)) < (((D.asL (at_ s4 1))).length : Int)))), (at_ s7 0), (at_ s7 0)])
                  else none
                  else none
                  else none
                  else none) [(D.int 0)]).bind fun o6 =>
              if o6.1 = 3866638 then
                (if ((D.asI (at_ o6.2 4)) == (((D.asL (at_ s4 1))).length : Int)) then
                    if (D.asB (U2.ev (.fits 34359738368) (D.int (((D.asL (at_ s4 1))).length : Int)) (D.int ((((at_ s4 0) :: ([] : List D))).length : Int)))) then
                    if (decide (0 ≤ (D.asI (at_ (D.asA (at_ (D.asL (at_ (D.asA (at_ r0 0)) 0)) (Int.toNat (D.asI (at_ s4 0))))) 1)) ∧ (D.asI (at_ (D.asA (at_ (D.asL (at_ (D.asA (at_ r0 0)) 0)) (Int.toNat (D.asI (at_ s4 0))))) 1)) < (((D.asL (at_ (D.asA (at_ r0 0)) 1))).length : Int))) then
                    if (D.asB (U2.ev (.fits 34359738368) (D.int (((D.asL (at_ s4 3))).length : Int)) (D.int ((((at_ (D.asL (at_ (D.asA (at_ r0 0)) 1)) (Int.toNat (D.asI (at_ (D.asA (at_ (D.asL (at_ (D.asA (at_ r0 0)) 0)) (Int.toNat (D.asI (at_ s4 0))))) 1)))) :: ([] : List D))).length : Int)))) then
                    some (4325380, [(D.list ((D.asL (at_ s4 1)) ++ [(at_ s4 0)])), (D.list ((D.asL (at_ s4 3)) ++ [(at_ (D.asL (at_ (D.asA (at_ r0 0)) 1)) (Int.toNat (D.asI (at_ (D.asA (at_ (D.asL (at_ (D.asA (at_ r0 0)) 0)) (Int.toNat (D.asI (at_ s4 0))))) 1))))]))])
                    else none
                    else none
                    else none
                  else
                    some (4325380, [(at_ s4 1), (at_ s4 3)])).bind fun o7 =>
                if o7.1 = 4325380 then
                  if (decide (0 ≤ (D.asI (at_ o6.2 4)) ∧ (D.asI (at_ o6.2 4)) < (((D.asL (at_ o7.2 0))).length : Int))) then
                  if (decide (0 ≤ (D.asI (at_ s4 0)) ∧ (D.asI (at_ s4 0)) < (((D.asL (at_ s4 4))).length : Int))) then
                  if (D.asB (U2.ev (.fits 34359738368) (D.int (((D.asL (at_ s4 2))).length : Int)) (D.int ((((D.agg ((at_ (D.asA (at_ (D.asL (at_ (D.asA (at_ r0 0)) 0)) (Int.toNat (D.asI (at_ s4 0))))) 0) :: ((at_ o6.2 4) :: ((at_ o5.2 2) :: ((at_ o5.2 3) :: ((at_ o5.2 4) :: ((at_ (D.asA (at_ (D.asL (at_ (D.asA (at_ r0 0)) 0)) (Int.toNat (D.asI (at_ s4 0))))) 5) :: ((at_ (D.asA (at_ (D.asL (at_ (D.asA (at_ r0 0)) 0)) (Int.toNat (D.asI (at_ s4 0))))) 6) :: ([] : List D))))))))) :: ([] : List D))).length : Int)))) then
                  some (0, [(D.int (IntKind.wrap .i64 ((D.asI (at_ s4 0)) + (1 : Int)))), (D.list (((D.asL (at_ o7.2 0))).set (Int.toNat (D.asI (at_ o6.2 4))) (at_ s4 0))), (D.list ((D.asL (at_ s4 2)) ++ [(D.agg ((at_ (D.asA (at_ (D.asL (at_ (D.asA (at_ r0 0)) 0)) (Int.toNat (D.asI (at_ s4 0))))) 0) :: ((at_ o6.2 4) :: ((at_ o5.2 2) :: ((at_ o5.2 3) :: ((at_ o5.2 4) :: ((at_ (D.asA (at_ (D.asL (at_ (D.asA (at_ r0 0)) 0)) (Int.toNat (D.asI (at_ s4 0))))) 5) :: ((at_ (D.asA (at_ (D.asL (at_ (D.asA (at_ r0 0)) 0)) (Int.toNat (D.asI (at_ s4 0))))) 6) :: ([] : List D)))))))))])), (at_ o7.2 1), (D.list (((D.asL (at_ s4 4))).set (Int.toNat (D.asI (at_ s4 0))) (at_ o6.2 4)))])
                  else none
                  else none
                  else none
                else some o7
              else some o6
            else some o5
            else none
            else none
          else
            some (2555914, [(at_ s4 2), (at_ s4 3), (at_ s4 4)])) [(D.int 0), (D.list []), (D.list []), (D.list []), (D.list (List.replicate (Int.toNat (((D.asL (at_ (D.asA (at_ r0 0)) 0))).length : Int)) (D.int 0)))]).bind fun o3 =>
      if o3.1 = 2555914 then
        if (decide (0 ≤ (D.asI (at_ r1 1)) ∧ (D.asI (at_ r1 1)) < (((D.asL (at_ o3.2 2))).length : Int))) then
        some (2, [(D.agg ((at_ o3.2 0) :: ((at_ o3.2 1) :: ((at_ (D.asL (at_ o3.2 2)) (Int.toNat (D.asI (at_ r1 1)))) :: ([] : List D)))))])
        else none
      else some o3
      else none
      else none
    else some o2
    else none : Option Out) := by kernel_rfl
-- errata/code.Operands
def h39 : List (Nat × List (Nat × Tm × Nat)) := []
def il39 : IL := (.call [] 1 54 [(.un (.fld 0) (.var 0))] (.ite (.un .not (.var 1)) (.out 2 [.lnil]) (.call [] 1 56 [(.un (.fld 0) (.var 0))] (.chk (.tri .cut (.int 0) (.var 2) (.un .len (.bin .cons (.un (.fld 2) (.var 0)) (.bin .cons (.un (.fld 3) (.var 0)) (.bin .cons (.un (.fld 4) (.var 0)) .lnil))))) (.out 2 [(.bin .drop (.bin .take (.bin .cons (.un (.fld 2) (.var 0)) (.bin .cons (.un (.fld 3) (.var 0)) (.bin .cons (.un (.fld 4) (.var 0)) .lnil))) (.var 2)) (.int 0))])))))
theorem d39 : decompF C ⟨[.struct 52], [.slice 3], [false]⟩ Tryd.f39 h39 = some il39 := by kernel_rfl
theorem e39 (R : Fns) (a0 : D) : den C.G R il39 [a0] =
    ((R 54 [(at_ (D.asA a0) 0)]).bind fun r0 =>
    if (!(D.asB (at_ r0 0))) then
      some (2, [(D.list [])])
    else
      (R 56 [(at_ (D.asA a0) 0)]).bind fun r1 =>
      if (decide (0 ≤ (0 : Int) ∧ (0 : Int) ≤ (D.asI (at_ r1 0)) ∧ (D.asI (at_ r1 0)) ≤ ((((at_ (D.asA a0) 2) :: ((at_ (D.asA a0) 3) :: ((at_ (D.asA a0) 4) :: ([] : List D))))).length : Int))) then
      some (2, [(D.list ((((((at_ (D.asA a0) 2) :: ((at_ (D.asA a0) 3) :: ((at_ (D.asA a0) 4) :: ([] : List D))))).take (Int.toNat (D.asI (at_ r1 0))))).drop (Int.toNat (0 : Int))))])
      else none : Option Out) := by kernel_rfl
-- errata/code.verify$1
def h40 : List (Nat × List (Nat × Tm × Nat)) := []
def il40 : IL := (.chk (.un .isptr (.var 1)) (.chk (.bin .inb (.un .len (.un .deref (.var 1))) (.var 0)) (.out 2 [(.un .not (.bin .idx (.un .deref (.var 1)) (.var 0)))])))
theorem d40 : decompF C ⟨[.int .i64, .ptr 57], [.bool], [false]⟩ Tryd.f40 h40 = some il40 := by kernel_rfl
theorem e40 (R : Fns) (a0 a1 : D) : den C.G R il40 [a0, a1] =
    (if (D.isP a1) then
    if (decide (0 ≤ (D.asI a0) ∧ (D.asI a0) < (((D.asL (D.asP a1))).length : Int))) then
    some (2, [(D.bool (!(D.asB (at_ (D.asL (D.asP a1)) (Int.toNat (D.asI a0))))))])
    else none
    else none : Option Out) := by kernel_rfl
-- errata/errataref25.last
def h52 : List (Nat × List (Nat × Tm × Nat)) := [(5, [(0, ⟨[(2, (.dat (.int .i64) (.var 2))), (3, (.bptr 24 [] 25)), (7, (.dat (.int .i64) (.var 3))), (6, (.dat (.int .i64) (.int 0)))], [(24, (.box 25 (.dat (.struct 25) (.var 0))))]⟩, 1), (3, ⟨[(6, (.dat (.int .i64) (.int 0)))], []⟩, 0)])]
def il52 : IL := (.bindc (.loop [(.bin (.sub .i64) (.var 1) (.int 1))] (.ite (.bin .ile (.int 0) (.var 3)) (.chk (.bin .inb (.un .len (.un (.fld 0) (.var 0))) (.var 3)) (.ite (.bin .ieq (.un (.fld 1) (.bin .idx (.un (.fld 0) (.var 0)) (.var 3))) (.var 2)) (.out 2 [(.var 3)]) (.out 0 [(.bin (.sub .i64) (.var 3) (.int 1))]))) (.out 327686 []))) 327686 0 (.out 2 [(.int (-1))]))
theorem d52 : decompF C ⟨[.struct 25, .int .i64, .int .i64], [.int .i64], [false]⟩ Tryd.f52 h52 = some il52 := by kernel_rfl
theorem e52 (R : Fns) (a0 a1 a2 : D) : den C.G R il52 [a0, a1, a2] =
    ((loopL (fun s1 =>
        if (decide ((0 : Int) ≤ (D.asI (at_ s1 0)))) then
          if (decide (0 ≤ (D.asI (at_ s1 0)) ∧ (D.asI (at_ s1 0)) < (((D.asL (at_ (D.asA a0) 0))).length : Int))) then
          if ((D.asI (at_ (D.asA (at_ (D.asL (at_ (D.asA a0) 0)) (Int.toNat (D.asI (at_ s1 0))))) 1)) == (D.asI a2)) then
            some (2, [(at_ s1 0)])
          else
            some (0, [(D.int (IntKind.wrap .i64 ((D.asI (at_ s1 0)) - (1 : Int))))])
          else none
        else
          some (327686, [])) [(D.int (IntKind.wrap .i64 ((D.asI a1) - (1 : Int))))]).bind fun o0 =>
    if o0.1 = 327686 then
      some (2, [(D.int (-1))])
    else some o0 : Option Out) := by kernel_rfl
-- errata/expr.Right
def h57 : List (Nat × List (Nat × Tm × Nat)) := [(9, [(0, ⟨[(0, (.dat (.slice 107) (.var 0))), (11, (.dat (.slice 107) (.var 0))), (12, (.dat (.int .i64) (.un .len (.var 0)))), (13, (.dat (.int .i64) (.var 1))), (2, (.dat (.bool) (.bool false)))], []⟩, 1), (3, ⟨[(2, (.dat (.bool) (.bool false)))], []⟩, 0)])]
def il57 : IL := (.ite (.bin .ilt (.int 20) (.un .len (.var 0))) (.out 2 [(.bool false)]) (.bindc (.loop [(.int 0)] (.ite (.bin .ilt (.var 1) (.un .len (.var 0))) (.chk (.bin .inb (.un .len (.var 0)) (.var 1)) (.call [((.bin .ilt (.int 6) (.un .len (.un (.fld 1) (.bin .idx (.var 0) (.var 1))))), false)] 1 24 [(.un (.fld 1) (.bin .idx (.var 0) (.var 1))), (.fn 75 .lnil .lnil)] (.ite (.bin .or (.bin .ilt (.int 6) (.un .len (.un (.fld 1) (.bin .idx (.var 0) (.var 1))))) (.var 2)) (.out 2 [(.bool false)]) (.chk (.tri .cut (.int 0) (.var 1) (.un .len (.var 0))) (.call [] 2 58 [(.un .mkagg (.bin .cons (.bin .drop (.bin .take (.var 0) (.var 1)) (.int 0)) (.bin .cons .lnil (.bin .cons (.un (.fld 1) (.bin .idx (.var 0) (.var 1))) .lnil)))), (.un (.fld 3) (.bin .idx (.var 0) (.var 1)))] (.ite (.bin .or (.un .not (.var 4)) (.un .not (.bin .ieq (.var 3) (.un (.fld 2) (.bin .idx (.var 0) (.var 1)))))) (.out 2 [(.bool false)]) (.out 0 [(.bin (.add .i64) (.var 1) (.int 1))]))))))) (.out 589830 []))) 589830 0 (.out 2 [(.bool true)])))
theorem d57 : decompF C ⟨[.slice 107], [.bool], [false]⟩ Tryd.f57 h57 = some il57 := by kernel_rfl
theorem e57 (R : Fns) (a0 : D) : den C.G R il57 [a0] =
    (if (decide ((20 : Int) < (((D.asL a0)).length : Int))) then
      some (2, [(D.bool false)])
    else
      (loopL (fun s1 =>
          if (decide ((D.asI (at_ s1 0)) < (((D.asL a0)).length : Int))) then
            if (decide (0 ≤ (D.asI (at_ s1 0)) ∧ (D.asI (at_ s1 0)) < (((D.asL a0)).length : Int))) then
            callIf (((decide ((6 : Int) < (((D.asL (at_ (D.asA (at_ (D.asL a0) (Int.toNat (D.asI (at_ s1 0))))) 1))).length : Int))) == false) && true) (R 24 [(at_ (D.asA (at_ (D.asL a0) (Int.toNat (D.asI (at_ s1 0))))) 1), (D.fn 75 ([] : List D) ([] : List D))]) fun r2 =>
            if ((decide ((6 : Int) < (((D.asL (at_ (D.asA (at_ (D.asL a0) (Int.toNat (D.asI (at_ s1 0))))) 1))).length : Int))) || (D.asB (at_ r2 0))) then
              some (2, [(D.bool false)])
            else
              if (decide (0 ≤ (0 : Int) ∧ (0 : Int) ≤ (D.asI (at_ s1 0)) ∧ (D.asI (at_ s1 0)) ≤ (((D.asL a0)).length : Int))) then
              (R 58 [(D.agg ((D.list (((((D.asL a0)).take (Int.toNat (D.asI (at_ s1 0))))).drop (Int.toNat (0 : Int)))) :: ((D.list []) :: ((at_ (D.asA (at_ (D.asL a0) (Int.toNat (D.asI (at_ s1 0))))) 1) :: ([] : List D))))), (at_ (D.asA (at_ (D.asL a0) (Int.toNat (D.asI (at_ s1 0))))) 3)]).bind fun r3 =>
              if ((!(D.asB (at_ r3 1))) || (!((D.asI (at_ r3 0)) == (D.asI (at_ (D.asA (at_ (D.asL a0) (Int.toNat (D.asI (at_ s1 0))))) 2))))) then
                some (2, [(D.bool false)])
              else
                some (0, [(D.int (IntKind.wrap .i64 ((D.asI (at_ s1 0)) + (1 : Int))))])
              else none
            else none
          else
            some (589830, [])) [(D.int 0)]).bind fun o0 =>
      if o0.1 = 589830 then
        some (2, [(D.bool true)])
      else some o0 : Option Out) := by kernel_rfl
-- errata/value.all
def h59 : List (Nat × List (Nat × Tm × Nat)) := []
def il59 : IL := (.call [] 1 79 [(.var 0), (.fn 80 .lnil .lnil)] (.out 2 [(.un .not (.var 1))]))
theorem d59 : decompF C ⟨[.slice 39], [.bool], [false]⟩ Tryd.f59 h59 = some il59 := by kernel_rfl
theorem e59 (R : Fns) (a0 : D) : den C.G R il59 [a0] =
    ((R 79 [a0, (D.fn 80 ([] : List D) ([] : List D))]).bind fun r0 =>
    some (2, [(D.bool (!(D.asB (at_ r0 0))))]) : Option Out) := by kernel_rfl
-- (*errata/vm.machine).source$1
def h61 : List (Nat × List (Nat × Tm × Nat)) := []
def il61 : IL := (.chk (.un .isptr (.var 1)) (.chk (.un .isptr (.var 2)) (.ite (.bin .ieq (.un (.fld 0) (.un .deref (.var 1))) (.int 0)) (.call [] 1 62 [(.un (.fld 5) (.un .deref (.var 1)))] (.out 2 [(.var 3)])) (.ite (.bin .ieq (.un (.fld 0) (.un .deref (.var 1))) (.int 2)) (.call [] 1 63 [(.bin .ieq (.un (.fld 5) (.un .deref (.var 1))) (.int 1))] (.out 2 [(.var 3)])) (.ite (.bin .ieq (.un (.fld 0) (.un .deref (.var 1))) (.int 1)) (.call [] 1 64 [(.un (.fld 6) (.un .deref (.var 1)))] (.out 2 [(.var 3)])) (.ite (.bin .ieq (.un (.fld 0) (.un .deref (.var 1))) (.int 3)) (.chk (.un .isptr (.un .deref (.var 2))) (.chk (.bin .inb (.un .len (.un (.fld 0) (.un .deref (.un .deref (.var 2))))) (.var 0)) (.chk (.bin .inb (.un .len (.un (.fld 1) (.bin .idx (.un (.fld 0) (.un .deref (.un .deref (.var 2)))) (.var 0)))) (.un (.fld 5) (.un .deref (.var 1)))) (.out 2 [(.bin .idx (.un (.fld 1) (.bin .idx (.un (.fld 0) (.un .deref (.un .deref (.var 2)))) (.var 0))) (.un (.fld 5) (.un .deref (.var 1))))])))) (.chk (.un .isptr (.un .deref (.var 2))) (.chk (.bin .inb (.un .len (.un (.fld 0) (.un .deref (.un .deref (.var 2))))) (.var 0)) (.call [] 1 62 [(.un (.fld 0) (.bin .idx (.un (.fld 0) (.un .deref (.un .deref (.var 2)))) (.var 0)))] (.out 2 [(.var 3)]))))))))))
theorem d61 : decompF C ⟨[.int .i64, .ptr 52, .ptr 78], [.struct 39], [false]⟩ Tryd.f61 h61 = some il61 := by kernel_rfl
theorem e61 (R : Fns) (a0 a1 a2 : D) : den C.G R il61 [a0, a1, a2] =
    (if (D.isP a1) then
    if (D.isP a2) then
    if ((D.asI (at_ (D.asA (D.asP a1)) 0)) == (0 : Int)) then
      (R 62 [(at_ (D.asA (D.asP a1)) 5)]).bind fun r0 =>
      some (2, [(at_ r0 0)])
    else
      if ((D.asI (at_ (D.asA (D.asP a1)) 0)) == (2 : Int)) then
        (R 63 [(D.bool ((D.asI (at_ (D.asA (D.asP a1)) 5)) == (1 : Int)))]).bind fun r0 =>
        some (2, [(at_ r0 0)])
      else
        if ((D.asI (at_ (D.asA (D.asP a1)) 0)) == (1 : Int)) then
          (R 64 [(at_ (D.asA (D.asP a1)) 6)]).bind fun r0 =>
          some (2, [(at_ r0 0)])
        else
          if ((D.asI (at_ (D.asA (D.asP a1)) 0)) == (3 : Int)) then
            if (D.isP (D.asP a2)) then
            if (decide (0 ≤ (D.asI a0) ∧ (D.asI a0) < (((D.asL (at_ (D.asA (D.asP (D.asP a2))) 0))).length : Int))) then
            if (decide (0 ≤ (D.asI (at_ (D.asA (D.asP a1)) 5)) ∧ (D.asI (at_ (D.asA (D.asP a1)) 5)) < (((D.asL (at_ (D.asA (at_ (D.asL (at_ (D.asA (D.asP (D.asP a2))) 0)) (Int.toNat (D.asI a0)))) 1))).length : Int))) then
            some (2, [(at_ (D.asL (at_ (D.asA (at_ (D.asL (at_ (D.asA (D.asP (D.asP a2))) 0)) (Int.toNat (D.asI a0)))) 1)) (Int.toNat (D.asI (at_ (D.asA (D.asP a1)) 5))))])
            else none
            else none
            else none
          else
            if (D.isP (D.asP a2)) then
            if (decide (0 ≤ (D.asI a0) ∧ (D.asI a0) < (((D.asL (at_ (D.asA (D.asP (D.asP a2))) 0))).length : Int))) then
            (R 62 [(at_ (D.asA (at_ (D.asL (at_ (D.asA (D.asP (D.asP a2))) 0)) (Int.toNat (D.asI a0)))) 0)]).bind fun r0 =>
            some (2, [(at_ r0 0)])
            else none
            else none
    else none
    else none : Option Out) := by kernel_rfl
-- errata/value.Compare
def h67 : List (Nat × List (Nat × Tm × Nat)) := []
def il67 : IL := (.call [] 1 83 [(.un (.fld 0) (.var 0)), (.un (.fld 0) (.var 1))] (.call [] 1 83 [(.un (.fld 1) (.var 0)), (.un (.fld 1) (.var 1))] (.call [] 1 84 [(.un (.fld 2) (.var 0)), (.un (.fld 2) (.var 1))] (.call [] 1 82 [(.bin .cons (.var 2) (.bin .cons (.var 3) (.bin .cons (.var 4) .lnil)))] (.out 2 [(.var 5)])))))
theorem d67 : decompF C ⟨[.struct 39, .struct 39], [.int .i64], [false]⟩ Tryd.f67 h67 = some il67 := by kernel_rfl
theorem e67 (R : Fns) (a0 a1 : D) : den C.G R il67 [a0, a1] =
    ((R 83 [(at_ (D.asA a0) 0), (at_ (D.asA a1) 0)]).bind fun r0 =>
    (R 83 [(at_ (D.asA a0) 1), (at_ (D.asA a1) 1)]).bind fun r1 =>
    (R 84 [(at_ (D.asA a0) 2), (at_ (D.asA a1) 2)]).bind fun r2 =>
    (R 82 [(D.list ((at_ r0 0) :: ((at_ r1 0) :: ((at_ r2 0) :: ([] : List D)))))]).bind fun r3 =>
    some (2, [(at_ r3 0)]) : Option Out) := by kernel_rfl
-- errata/vm.numbers
def h68 : List (Nat × List (Nat × Tm × Nat)) := []
def il68 : IL := (.call [] 2 85 [(.var 1), (.var 2)] (.ite (.bin .ieq (.var 0) (.int 8)) (.call [] 1 62 [(.bin (.add .i64) (.var 1) (.var 2))] (.out 2 [(.var 5)])) (.ite (.bin .ieq (.var 0) (.int 9)) (.call [] 1 62 [(.bin (.sub .i64) (.var 1) (.var 2))] (.out 2 [(.var 5)])) (.ite (.bin .ieq (.var 0) (.int 10)) (.call [] 1 62 [(.bin (.mul .i64) (.var 1) (.var 2))] (.out 2 [(.var 5)])) (.ite (.bin .ieq (.var 0) (.int 11)) (.call [] 1 62 [(.var 3)] (.out 2 [(.var 5)])) (.call [] 1 62 [(.var 4)] (.out 2 [(.var 5)])))))))
theorem d68 : decompF C ⟨[.int .i64, .int .i64, .int .i64], [.struct 39], [false]⟩ Tryd.f68 h68 = some il68 := by kernel_rfl
theorem e68 (R : Fns) (a0 a1 a2 : D) : den C.G R il68 [a0, a1, a2] =
    ((R 85 [a1, a2]).bind fun r0 =>
    if ((D.asI a0) == (8 : Int)) then
      (R 62 [(D.int (IntKind.wrap .i64 ((D.asI a1) + (D.asI a2))))]).bind fun r1 =>
      some (2, [(at_ r1 0)])
    else
      if ((D.asI a0) == (9 : Int)) then
        (R 62 [(D.int (IntKind.wrap .i64 ((D.asI a1) - (D.asI a2))))]).bind fun r1 =>
        some (2, [(at_ r1 0)])
      else
        if ((D.asI a0) == (10 : Int)) then
          (R 62 [(D.int (IntKind.wrap .i64 ((D.asI a1) * (D.asI a2))))]).bind fun r1 =>
          some (2, [(at_ r1 0)])
        else
          if ((D.asI a0) == (11 : Int)) then
            (R 62 [(at_ r0 0)]).bind fun r1 =>
            some (2, [(at_ r1 0)])
          else
            (R 62 [(at_ r0 1)]).bind fun r1 =>
            some (2, [(at_ r1 0)]) : Option Out) := by kernel_rfl
-- errata/errataref16.Eval
def h74 : List (Nat × List (Nat × Tm × Nat)) := []
def il74 : IL := (.call [] 1 88 [(.var 0), (.var 1), (.var 2), (.var 3), .lnil] (.out 2 [(.un (.fld 0) (.var 4))]))
theorem d74 : decompF C ⟨[.slice 107, .struct 75, .int .i64, .slice 39], [.struct 39], [false]⟩ Tryd.f74 h74 = some il74 := by kernel_rfl
theorem e74 (R : Fns) (a0 a1 a2 a3 : D) : den C.G R il74 [a0, a1, a2, a3] =
    ((R 88 [a0, a1, a2, a3, (D.list [])]).bind fun r0 =>
    some (2, [(at_ (D.asA (at_ r0 0)) 0)]) : Option Out) := by kernel_rfl
-- errata/value.all$1
def h80 : List (Nat × List (Nat × Tm × Nat)) := []
def il80 : IL := (.call [] 1 81 [(.var 0)] (.out 2 [(.un .not (.var 1))]))
theorem d80 : decompF C ⟨[.struct 39], [.bool], [false]⟩ Tryd.f80 h80 = some il80 := by kernel_rfl
theorem e80 (R : Fns) (a0 : D) : den C.G R il80 [a0] =
    ((R 81 [a0]).bind fun r0 =>
    some (2, [(D.bool (!(D.asB (at_ r0 0))))]) : Option Out) := by kernel_rfl
-- errata/errataref16.Right
def h86 : List (Nat × List (Nat × Tm × Nat)) := [(5, [(0, ⟨[(3, (.dat (.int .i64) (.var 1))), (0, (.dat (.slice 107) (.var 0))), (2, (.dat (.bool) (.bool false)))], []⟩, 1), (3, ⟨[(0, (.dat (.slice 107) (.var 0))), (2, (.dat (.bool) (.bool false)))], []⟩, 0)]), (13, [(0, ⟨[(5, (.dat (.int .i64) (.var 2))), (21, (.dat (.struct 107) (.bin .idx (.var 0) (.var 1)))), (4, (.bptr 32 [] 107)), (20, (.dat (.ptr 107) (.un .mkptr (.bin .idx (.var 0) (.var 1))))), (19, (.dat (.int .i64) (.var 1))), (18, (.dat (.slice 107) (.var 0))), (15, (.dat (.bool) (.bin .and (.bin .ilt (.var 1) (.un .len (.var 0))) (.bin .ile (.var 1) (.int 20))))), (12, (.dat (.bool) (.bin .ilt (.var 1) (.un .len (.var 0))))), (11, (.dat (.bool) (.bin .ilt (.var 1) (.un .len (.var 0))))), (10, (.dat (.int .i64) (.un .len (.var 0)))), (8, (.dat (.int .i64) (.var 1))), (9, (.dat (.slice 107) (.var 0))), (3, (.dat (.int .i64) (.var 1))), (0, (.dat (.slice 107) (.var 0))), (2, (.dat (.bool) (.bool false)))], [(32, (.box 107 (.dat (.struct 107) (.bin .idx (.var 0) (.var 1)))))]⟩, 1), (5, ⟨[(26, (.dat (.bool) (.var 2))), (25, (.dat (.int .i64) (.un .len (.un (.fld 1) (.bin .idx (.var 0) (.var 1)))))), (22, (.dat (.int .i64) (.var 3))), (24, (.dat (.slice 3) (.un (.fld 1) (.bin .idx (.var 0) (.var 1))))), (23, (.bptr 32 [1] 23)), (5, (.dat (.int .i64) (.var 4))), (21, (.dat (.struct 107) (.bin .idx (.var 0) (.var 1)))), (4, (.bptr 32 [] 107)), (20, (.dat (.ptr 107) (.un .mkptr (.bin .idx (.var 0) (.var 1))))), (19, (.dat (.int .i64) (.var 1))), (18, (.dat (.slice 107) (.var 0))), (15, (.dat (.bool) (.bin .and (.bin .ilt (.var 1) (.un .len (.var 0))) (.bin .ile (.var 1) (.int 20))))), (12, (.dat (.bool) (.bin .ilt (.var 1) (.un .len (.var 0))))), (11, (.dat (.bool) (.bin .ilt (.var 1) (.un .len (.var 0))))), (10, (.dat (.int .i64) (.un .len (.var 0)))), (8, (.dat (.int .i64) (.var 1))), (9, (.dat (.slice 107) (.var 0))), (3, (.dat (.int .i64) (.var 1))), (0, (.dat (.slice 107) (.var 0))), (2, (.dat (.bool) (.bool false)))], [(32, (.box 107 (.dat (.struct 107) (.bin .idx (.var 0) (.var 1)))))]⟩, 3)])]
def il86 : IL := (.bindc (.loop [(.int 0)] (.ite (.bin .and (.bin .ilt (.var 1) (.un .len (.var 0))) (.bin .ile (.var 1) (.int 20))) (.chk (.bin .inb (.un .len (.var 0)) (.var 1)) (.bindc (.loop [(.int 0)] (.ite (.bin .ilt (.var 2) (.un .len (.un (.fld 1) (.bin .idx (.var 0) (.var 1))))) (.chk (.bin .inb (.un .len (.un (.fld 1) (.bin .idx (.var 0) (.var 1)))) (.var 2)) (.call [] 1 95 [(.bin .idx (.un (.fld 1) (.bin .idx (.var 0) (.var 1))) (.var 2))] (.ite (.un .not (.var 3)) (.out 2 [(.bool false)]) (.out 0 [(.bin (.add .i64) (.var 2) (.int 1))])))) (.out 851976 [(.bin .ilt (.var 2) (.un .len (.un (.fld 1) (.bin .idx (.var 0) (.var 1))))), (.var 2), (.var 2)]))) 851976 3 (.chk (.tri .cut (.int 0) (.var 1) (.un .len (.var 0))) (.call [] 2 87 [(.bin .drop (.bin .take (.var 0) (.var 1)) (.int 0)), .lnil, (.un (.fld 1) (.bin .idx (.var 0) (.var 1))), (.un (.fld 3) (.bin .idx (.var 0) (.var 1)))] (.ite (.bin .or (.bin .or (.un .not (.var 6)) (.un .not (.bin .ieq (.var 5) (.un (.fld 2) (.bin .idx (.var 0) (.var 1)))))) (.bin .ilt (.int 6) (.un .len (.un (.fld 1) (.bin .idx (.var 0) (.var 1)))))) (.out 2 [(.bool false)]) (.out 0 [(.bin (.add .i64) (.var 1) (.int 1))])))))) (.out 327686 []))) 327686 0 (.out 2 [(.bin .ile (.un .len (.var 0)) (.int 20))]))
theorem d86 : decompF C ⟨[.slice 107], [.bool], [false]⟩ Tryd.f86 h86 = some il86 := by kernel_rfl
theorem e86 (R : Fns) (a0 : D) : den C.G R il86 [a0] =
    ((loopL (fun s1 =>
        if ((decide ((D.asI (at_ s1 0)) < (((D.asL a0)).length : Int))) && (decide ((D.asI (at_ s1 0)) ≤ (20 : Int)))) then
          if (decide (0 ≤ (D.asI (at_ s1 0)) ∧ (D.asI (at_ s1 0)) < (((D.asL a0)).length : Int))) then
          (loopL (fun s3 =>
              if (decide ((D.asI (at_ s3 0)) < (((D.asL (at_ (D.asA (at_ (D.asL a0) (Int.toNat (D.asI (at_ s1 0))))) 1))).length : Int))) then
                if (decide (0 ≤ (D.asI (at_ s3 0)) ∧ (D.asI (at_ s3 0)) < (((D.asL (at_ (D.asA (at_ (D.asL a0) (Int.toNat (D.asI (at_ s1 0))))) 1))).length : Int))) then
                (R 95 [(at_ (D.asL (at_ (D.asA (at_ (D.asL a0) (Int.toNat (D.asI (at_ s1 0))))) 1)) (Int.toNat (D.asI (at_ s3 0))))]).bind fun r4 =>
                if (!(D.asB (at_ r4 0))) then
                  some (2, [(D.bool false)])
                else
                  some (0, [(D.int (IntKind.wrap .i64 ((D.asI (at_ s3 0)) + (1 : Int))))])
                else none
              else
                some (851976, [(D.bool (decide ((D.asI (at_ s3 0)) < (((D.asL (at_ (D.asA (at_ (D.asL a0) (Int.toNat (D.asI (at_ s1 0))))) 1))).length : Int)))), (at_ s3 0), (at_ s3 0)])) [(D.int 0)]).bind fun o2 =>
          if o2.1 = 851976 then
            if (decide (0 ≤ (0 : Int) ∧ (0 : Int) ≤ (D.asI (at_ s1 0)) ∧ (D.asI (at_ s1 0)) ≤ (((D.asL a0)).length : Int))) then
            (R 87 [(D.list (((((D.asL a0)).take (Int.toNat (D.asI (at_ s1 0))))).drop (Int.toNat (0 : Int)))), (D.list []), (at_ (D.asA (at_ (D.asL a0) (Int.toNat (D.asI (at_ s1 0))))) 1), (at_ (D.asA (at_ (D.asL a0) (Int.toNat (D.asI (at_ s1 0))))) 3)]).bind fun r3 =>
            if (((!(D.asB (at_ r3 1))) || (!((D.asI (at_ r3 0)) == (D.asI (at_ (D.asA (at_ (D.asL a0) (Int.toNat (D.asI (at_ s1 0))))) 2))))) || (decide ((6 : Int) < (((D.asL (at_ (D.asA (at_ (D.asL a0) (Int.toNat (D.asI (at_ s1 0))))) 1))).length : Int)))) then
              some (2, [(D.bool false)])
            else
              some (0, [(D.int (IntKind.wrap .i64 ((D.asI (at_ s1 0)) + (1 : Int))))])
            else none
          else some o2
          else none
        else
          some (327686, [])) [(D.int 0)]).bind fun o0 =>
    if o0.1 = 327686 then
      some (2, [(D.bool (decide ((((D.asL a0)).length : Int) ≤ (20 : Int))))])
    else some o0 : Option Out) := by kernel_rfl
-- (errata/expr.scope).leaf
def h89 : List (Nat × List (Nat × Tm × Nat)) := []
def il89 : IL := (.ite (.bin .ieq (.un (.fld 0) (.var 1)) (.int 0)) (.out 2 [(.int 0), (.bool true)]) (.ite (.bin .ieq (.un (.fld 0) (.var 1)) (.int 2)) (.out 2 [(.int 2), (.bin .or (.bin .ieq (.un (.fld 1) (.var 1)) (.int 0)) (.bin .ieq (.un (.fld 1) (.var 1)) (.int 1)))]) (.ite (.bin .ieq (.un (.fld 0) (.var 1)) (.int 3)) (.call [] 2 99 [(.un (.fld 1) (.var 0)), (.un (.fld 1) (.var 1))] (.out 2 [(.var 2), (.var 3)])) (.ite (.bin .ieq (.un (.fld 0) (.var 1)) (.int 4)) (.call [] 2 99 [(.un (.fld 2) (.var 0)), (.un (.fld 1) (.var 1))] (.out 2 [(.var 2), (.var 3)])) (.ite (.bin .ieq (.un (.fld 0) (.var 1)) (.int 1)) (.out 2 [(.int 1), (.bin .and (.bin .ieq (.un (.fld 1) (.var 1)) (.int 0)) (.bin .ile (.un .slen (.un (.fld 2) (.var 1))) (.int 200)))]) (.ite (.bin .ieq (.un (.fld 0) (.var 1)) (.int 5)) (.out 2 [(.int 0), (.bin .ieq (.un (.fld 1) (.var 1)) (.int 0))]) (.out 2 [(.int 0), (.bool false)])))))))
theorem d89 : decompF C ⟨[.struct 95, .struct 75], [.int .i64, .bool], [false, false]⟩ Tryd.f89 h89 = some il89 := by kernel_rfl
theorem e89 (R : Fns) (a0 a1 : D) : den C.G R il89 [a0, a1] =
    (if ((D.asI (at_ (D.asA a1) 0)) == (0 : Int)) then
      some (2, [(D.int 0), (D.bool true)])
    else
      if ((D.asI (at_ (D.asA a1) 0)) == (2 : Int)) then
        some (2, [(D.int 2), (D.bool (((D.asI (at_ (D.asA a1) 1)) == (0 : Int)) || ((D.asI (at_ (D.asA a1) 1)) == (1 : Int))))])
      else
        if ((D.asI (at_ (D.asA a1) 0)) == (3 : Int)) then
          (R 99 [(at_ (D.asA a0) 1), (at_ (D.asA a1) 1)]).bind fun r0 =>
          some (2, [(at_ r0 0), (at_ r0 1)])
        else
          if ((D.asI (at_ (D.asA a1) 0)) == (4 : Int)) then
            (R 99 [(at_ (D.asA a0) 2), (at_ (D.asA a1) 1)]).bind fun r0 =>
            some (2, [(at_ r0 0), (at_ r0 1)])
          else
            if ((D.asI (at_ (D.asA a1) 0)) == (1 : Int)) then
              some (2, [(D.int 1), (D.bool (((D.asI (at_ (D.asA a1) 1)) == (0 : Int)) && (decide ((((D.asS (at_ (D.asA a1) 2))).length : Int) ≤ (200 : Int)))))])
            else
              if ((D.asI (at_ (D.asA a1) 0)) == (5 : Int)) then
                some (2, [(D.int 0), (D.bool ((D.asI (at_ (D.asA a1) 1)) == (0 : Int)))])
              else
                some (2, [(D.int 0), (D.bool false)]) : Option Out) := by kernel_rfl
-- errata/errataref16.at
def h105 : List (Nat × List (Nat × Tm × Nat)) := []
def il105 : IL := (.ite (.bin .or (.bin .ilt (.var 1) (.int 0)) (.bin .ile (.un .len (.var 0)) (.var 1))) (.out 2 [(.int 0), (.bool false)]) (.chk (.bin .inb (.un .len (.var 0)) (.var 1)) (.chk (.bin .inb (.un .len (.var 0)) (.var 1)) (.call [] 1 95 [(.bin .idx (.var 0) (.var 1))] (.out 2 [(.bin .idx (.var 0) (.var 1)), (.var 2)])))))
theorem d105 : decompF C ⟨[.slice 3, .int .i64], [.int .i64, .bool], [false, false]⟩ Tryd.f105 h105 = some il105 := by kernel_rfl
theorem e105 (R : Fns) (a0 a1 : D) : den C.G R il105 [a0, a1] =
    (if ((decide ((D.asI a1) < (0 : Int))) || (decide ((((D.asL a0)).length : Int) ≤ (D.asI a1)))) then
      some (2, [(D.int 0), (D.bool false)])
    else
      if (decide (0 ≤ (D.asI a1) ∧ (D.asI a1) < (((D.asL a0)).length : Int))) then
      if (decide (0 ≤ (D.asI a1) ∧ (D.asI a1) < (((D.asL a0)).length : Int))) then
      (R 95 [(at_ (D.asL a0) (Int.toNat (D.asI a1)))]).bind fun r0 =>
      some (2, [(at_ (D.asL a0) (Int.toNat (D.asI a1))), (at_ r0 0)])
      else none
      else none : Option Out) := by kernel_rfl
-- errata/errataref16.less
def h107 : List (Nat × List (Nat × Tm × Nat)) := []
def il107 : IL := (.ite (.bin .ieq (.un (.fld 0) (.var 0)) (.int 1)) (.out 2 [(.bin .slt (.un (.fld 2) (.var 0)) (.un (.fld 2) (.var 1)))]) (.out 2 [(.bin .ilt (.un (.fld 1) (.var 0)) (.un (.fld 1) (.var 1)))]))
theorem d107 : decompF C ⟨[.struct 39, .struct 39], [.bool], [false]⟩ Tryd.f107 h107 = some il107 := by kernel_rfl
theorem e107 (R : Fns) (a0 a1 : D) : den C.G R il107 [a0, a1] =
    (if ((D.asI (at_ (D.asA a0) 0)) == (1 : Int)) then
      some (2, [(D.bool (strLt (D.asS (at_ (D.asA a0) 2)) (D.asS (at_ (D.asA a1) 2))))])
    else
      some (2, [(D.bool (decide ((D.asI (at_ (D.asA a0) 1)) < (D.asI (at_ (D.asA a1) 1)))))]) : Option Out) := by kernel_rfl
end Go.Proofs.YtlbckmllpciglaaDoor
