/- Some functions' texts, and what they mean. Printed by a program of this claim's author. -/
import Derived.Test.YtlbckmllpciglaaDoorSyA
set_option linter.unusedVariables false
set_option linter.unusedSimpArgs false
set_option linter.all false
namespace Go.Proofs.YtlbckmllpciglaaDoor
open Go Sy
set_option maxRecDepth 100000
-- errata/erratalaw27.light
def h7 : List (Nat × List (Nat × Tm × Nat)) := [(15, [(0, ⟨[(8, (.dat (.int .i64) (.var 3))), (2, (.dat (.slice 37) (.var 2))), (1, (.dat (.slice 3) (.var 1))), (3, (.bptr 24 [] 25)), (6, (.dat (.bool) (.bool false)))], [(24, (.box 25 (.dat (.struct 25) (.var 0))))]⟩, 1), (5, ⟨[(2, (.dat (.slice 37) (.var 2))), (1, (.dat (.slice 3) (.var 1))), (3, (.bptr 24 [] 25)), (6, (.dat (.bool) (.bool false)))], [(24, (.box 25 (.dat (.struct 25) (.var 0))))]⟩, 0)]), (5, [(0, ⟨[(7, (.dat (.int .i64) (.var 3))), (1, (.dat (.slice 3) (.var 1))), (3, (.bptr 24 [] 25)), (2, (.dat (.slice 37) (.var 2))), (6, (.dat (.bool) (.bool false)))], [(24, (.box 25 (.dat (.struct 25) (.var 0))))]⟩, 1), (3, ⟨[(1, (.dat (.slice 3) (.var 1))), (3, (.bptr 24 [] 25)), (2, (.dat (.slice 37) (.var 2))), (6, (.dat (.bool) (.bool false)))], [(24, (.box 25 (.dat (.struct 25) (.var 0))))]⟩, 0)])]
def il7 : IL := (.bindc (.loop [(.int 0)] (.ite (.bin .and (.bin .ilt (.var 3) (.un .len (.un (.fld 0) (.var 0)))) (.bin .ilt (.var 3) (.int 101))) (.chk (.bin .inb (.un .len (.un (.fld 0) (.var 0))) (.var 3)) (.ite (.bin .ilt (.int 300) (.un .slen (.un (.fld 6) (.bin .idx (.un (.fld 0) (.var 0)) (.var 3))))) (.out 2 [(.bool false)]) (.out 0 [(.bin (.add .i64) (.var 3) (.int 1))]))) (.out 327686 []))) 327686 0 (.bindc (.loop [(.int 0)] (.ite (.bin .and (.bin .ilt (.var 3) (.un .len (.var 2))) (.bin .ilt (.var 3) (.int 31))) (.chk (.bin .inb (.un .len (.var 2)) (.var 3)) (.call [] 1 22 [(.un (.fld 1) (.bin .idx (.var 2) (.var 3))), (.int 15)] (.ite (.un .not (.var 4)) (.out 2 [(.bool false)]) (.out 0 [(.bin (.add .i64) (.var 3) (.int 1))])))) (.out 983048 []))) 983048 0 (.out 2 [(.bin .and (.bin .and (.bin .and (.bin .ile (.un .len (.un (.fld 0) (.var 0))) (.int 100)) (.bin .ile (.un .len (.un (.fld 1) (.var 0))) (.int 100))) (.bin .ile (.un .len (.var 1)) (.int 20))) (.bin .ile (.un .len (.var 2)) (.int 30)))])))
theorem d7 : decompF C ⟨[.struct 25, .slice 3, .slice 37], [.bool], [false]⟩ Tryd.f7 h7 = some il7 := by kernel_rfl
theorem e7 (R : Fns) (a0 a1 a2 : D) : den C.G R il7 [a0, a1, a2] =
    ((loopL (fun s1 =>
        if ((decide ((D.asI (at_ s1 0)) < (((D.asL (at_ (D.asA a0) 0))).length : Int))) && (decide ((D.asI (at_ s1 0)) < (101 : Int)))) then
          if (decide (0 ≤ (D.asI (at_ s1 0)) ∧ (D.asI (at_ s1 0)) < (((D.asL (at_ (D.asA a0) 0))).length : Int))) then
          if (decide ((300 : Int) < (((D.asS (at_ (D.asA (at_ (D.asL (at_ (D.asA a0) 0)) (Int.toNat (D.asI (at_ s1 0))))) 6))).length : Int))) then
            some (2, [(D.bool false)])
          else
            some (0, [(D.int (IntKind.wrap .i64 ((D.asI (at_ s1 0)) + (1 : Int))))])
          else none
        else
          some (327686, [])) [(D.int 0)]).bind fun o0 =>
    if o0.1 = 327686 then
      (loopL (fun s2 =>
          if ((decide ((D.asI (at_ s2 0)) < (((D.asL a2)).length : Int))) && (decide ((D.asI (at_ s2 0)) < (31 : Int)))) then
            if (decide (0 ≤ (D.asI (at_ s2 0)) ∧ (D.asI (at_ s2 0)) < (((D.asL a2)).length : Int))) then
            (R 22 [(at_ (D.asA (at_ (D.asL a2) (Int.toNat (D.asI (at_ s2 0))))) 1), (D.int 15)]).bind fun r3 =>
            if (!(D.asB (at_ r3 0))) then
              some (2, [(D.bool false)])
            else
              some (0, [(D.int (IntKind.wrap .i64 ((D.asI (at_ s2 0)) + (1 : Int))))])
            else none
          else
            some (983048, [])) [(D.int 0)]).bind fun o1 =>
      if o1.1 = 983048 then
        some (2, [(D.bool ((((decide ((((D.asL (at_ (D.asA a0) 0))).length : Int) ≤ (100 : Int))) && (decide ((((D.asL (at_ (D.asA a0) 1))).length : Int) ≤ (100 : Int)))) && (decide ((((D.asL a1)).length : Int) ≤ (20 : Int)))) && (decide ((((D.asL a2)).length : Int) ≤ (30 : Int)))))])
      else some o1
    else some o0 : Option Out) := by kernel_rfl
-- errata/errataref03.Same
def h11 : List (Nat × List (Nat × Tm × Nat)) := []
def il11 : IL := (.call [] 1 29 [(.var 0), (.var 1)] (.out 2 [(.bin .ieq (.var 2) (.int 0))]))
theorem d11 : decompF C ⟨[.slice 39, .slice 39], [.bool], [false]⟩ Tryd.f11 h11 = some il11 := by kernel_rfl
theorem e11 (R : Fns) (a0 a1 : D) : den C.G R il11 [a0, a1] =
    ((R 29 [a0, a1]).bind fun r0 =>
    some (2, [(D.bool ((D.asI (at_ r0 0)) == (0 : Int)))]) : Option Out) := by kernel_rfl
-- errata/vm.Project
def h16 : List (Nat × List (Nat × Tm × Nat)) := [(39, [(0, ⟨[(2, (.dat (.slice 37) (.var 2))), (66, (.dat (.slice 25) (.var 0))), (67, (.dat (.int .i64) (.un .len (.var 0)))), (68, (.dat (.int .i64) (.var 5))), (12, (.sli 392 0 37)), (7, (.dat (.int .i64) (.int 0))), (6, (.nils 37))], [(392, (.narr 37 1 (.var 6) 0 1 none))]⟩, 2), (7, ⟨[(12, (.sli 392 0 37)), (7, (.dat (.int .i64) (.int 0))), (6, (.nils 37))], [(392, (.narr 37 1 (.var 5) 0 1 none))]⟩, 1)]), (45, [(0, ⟨[(75, (.dat (.int .i64) (.un .len (.var 7)))), (76, (.dat (.int .i64) (.var 8))), (74, (.sli 592 0 39)), (73, (.dat (.slice 37) (.var 2))), (72, (.dat (.struct 25) (.bin .idx (.var 0) (.var 5)))), (2, (.dat (.slice 37) (.var 2))), (71, (.dat (.struct 25) (.bin .idx (.var 0) (.var 5)))), (16, (.bptr 128 [] 25)), (70, (.dat (.ptr 25) (.un .mkptr (.bin .idx (.var 0) (.var 5))))), (66, (.dat (.slice 25) (.var 0))), (69, (.dat (.bool) (.bin .ilt (.var 5) (.un .len (.var 0))))), (67, (.dat (.int .i64) (.un .len (.var 0)))), (68, (.dat (.int .i64) (.var 5))), (12, (.sli 392 0 37)), (7, (.dat (.int .i64) (.int 0))), (6, (.nils 37))], [(592, (.arr 39 (.var 7) 0)), (128, (.box 25 (.dat (.struct 25) (.bin .idx (.var 0) (.var 5))))), (392, (.narr 37 1 (.var 9) 0 1 none))]⟩, 2), (9, ⟨[(77, (.dat (.bool) (.var 8))), (75, (.dat (.int .i64) (.un .len (.var 7)))), (76, (.dat (.int .i64) (.var 9))), (74, (.sli 592 0 39)), (73, (.dat (.slice 37) (.var 2))), (72, (.dat (.struct 25) (.bin .idx (.var 0) (.var 5)))), (2, (.dat (.slice 37) (.var 2))), (71, (.dat (.struct 25) (.bin .idx (.var 0) (.var 5)))), (16, (.bptr 128 [] 25)), (70, (.dat (.ptr 25) (.un .mkptr (.bin .idx (.var 0) (.var 5))))), (66, (.dat (.slice 25) (.var 0))), (69, (.dat (.bool) (.bin .ilt (.var 5) (.un .len (.var 0))))), (67, (.dat (.int .i64) (.un .len (.var 0)))), (68, (.dat (.int .i64) (.var 5))), (12, (.sli 392 0 37)), (7, (.dat (.int .i64) (.int 0))), (6, (.nils 37))], [(592, (.arr 39 (.var 7) 0)), (128, (.box 25 (.dat (.struct 25) (.bin .idx (.var 0) (.var 5))))), (392, (.narr 37 1 (.var 10) 0 1 none))]⟩, 3)]), (29, [(0, ⟨[(50, (.dat (.slice 37) (.var 2))), (51, (.dat (.int .i64) (.un .len (.var 2)))), (52, (.dat (.int .i64) (.var 4))), (12, (.sli 392 0 37)), (2, (.dat (.slice 37) (.var 2))), (0, (.dat (.slice 25) (.var 0))), (7, (.dat (.int .i64) (.int 0))), (6, (.nils 37))], [(392, (.narr 37 1 (.var 5) 0 1 none))]⟩, 2), (5, ⟨[(12, (.sli 392 0 37)), (2, (.dat (.slice 37) (.var 2))), (0, (.dat (.slice 25) (.var 0))), (7, (.dat (.int .i64) (.int 0))), (6, (.nils 37))], [(392, (.narr 37 1 (.var 4) 0 1 none))]⟩, 1)]), (9, [(0, ⟨[(27, (.dat (.slice 25) (.var 0))), (28, (.dat (.int .i64) (.un .len (.var 0)))), (29, (.dat (.int .i64) (.var 3))), (0, (.dat (.slice 25) (.var 0))), (2, (.dat (.slice 37) (.var 2))), (1, (.dat (.slice 3) (.var 1))), (7, (.dat (.int .i64) (.int 0))), (6, (.nils 37))], []⟩, 1), (3, ⟨[(0, (.dat (.slice 25) (.var 0))), (2, (.dat (.slice 37) (.var 2))), (1, (.dat (.slice 3) (.var 1))), (7, (.dat (.int .i64) (.int 0))), (6, (.nils 37))], []⟩, 0)])]
def il16 : IL := (.ite (.bin .or (.bin .ieq (.un .len (.var 0)) (.int 0)) (.bin .ilt (.int 12) (.un .len (.var 0)))) (.out 2 [.lnil, (.int 1)]) (.bindc (.loop [(.int 0)] (.ite (.bin .ilt (.var 3) (.un .len (.var 0))) (.chk (.bin .inb (.un .len (.var 0)) (.var 3)) (.call [] 2 9 [(.bin .idx (.var 0) (.var 3)), (.var 1)] (.ite (.un .not (.bin .ieq (.var 5) (.int 0))) (.out 2 [.lnil, (.var 5)]) (.out 0 [(.bin (.add .i64) (.var 3) (.int 1))])))) (.out 589830 []))) 589830 0 (.call [] 1 27 [(.var 1), (.var 2)] (.ite (.un .not (.var 3)) (.out 2 [.lnil, (.int 16)]) (.chk (.bin (.ble 34359738368) (.un .len (.var 2)) (.un .len (.var 2))) (.bindc (.loop [(.int 0), (.bin .rep (.un .len (.var 2)) (.un .mkagg (.bin .cons (.int 0) (.bin .cons .lnil (.bin .cons (.int 0) .lnil)))))] (.ite (.bin .ilt (.var 4) (.un .len (.var 2))) (.chk (.bin .inb (.un .len (.var 2)) (.var 4)) (.chk (.bin .inb (.un .len (.var 5)) (.var 4)) (.out 0 [(.bin (.add .i64) (.var 4) (.int 1)), (.tri .set (.var 5) (.var 4) (.un .mkagg (.bin .cons (.un (.fld 0) (.bin .idx (.var 2) (.var 4))) (.bin .cons .lnil (.bin .cons (.un (.fld 2) (.bin .idx (.var 2) (.var 4))) .lnil)))))]))) (.out 1900552 [(.var 5)]))) 1900552 1 (.bindc (.loop [(.int 0), (.var 4)] (.ite (.bin .ilt (.var 5) (.un .len (.var 0))) (.chk (.bin .inb (.un .len (.var 0)) (.var 5)) (.call [] 1 28 [(.bin .idx (.var 0) (.var 5)), (.var 2)] (.bindc (.loop [(.int 0), (.var 6)] (.ite (.bin .ilt (.var 8) (.un .len (.var 7))) (.chk (.bin .inb (.un .len (.var 7)) (.var 8)) (.chk (.bin .inb (.un .len (.var 9)) (.var 8)) (.chk (.bin (.fits 34359738368) (.un .len (.un (.fld 1) (.bin .idx (.var 9) (.var 8)))) (.un .len (.bin .cons (.bin .idx (.var 7) (.var 8)) .lnil))) (.chk (.bin .inb (.un .len (.var 9)) (.var 8)) (.out 0 [(.bin (.add .i64) (.var 8) (.int 1)), (.tri .set (.var 9) (.var 8) (.bin (.setfld 1) (.bin .idx (.var 9) (.var 8)) (.bin .snoc (.un (.fld 1) (.bin .idx (.var 9) (.var 8))) (.bin .idx (.var 7) (.var 8)))))]))))) (.out 2949132 [(.bin .ilt (.var 8) (.un .len (.var 7))), (.var 8), (.var 9)]))) 2949132 3 (.out 0 [(.bin (.add .i64) (.var 5) (.int 1)), (.var 10)])))) (.out 2555914 [(.var 6)]))) 2555914 1 (.out 2 [(.var 5), (.int 0)]))))))))
theorem d16 : decompF C ⟨[.slice 25, .slice 3, .slice 37], [.slice 37, .int .i64], [false, false]⟩ Tryd.f16 h16 = some il16 := by kernel_rfl
theorem e16 (R : Fns) (a0 a1 a2 : D) : den C.G R il16 [a0, a1, a2] =
    (if (((((D.asL a0)).length : Int) == (0 : Int)) || (decide ((12 : Int) < (((D.asL a0)).length : Int)))) then
      some (2, [(D.list []), (D.int 1)])
    else
      (loopL (fun s1 =>
          if (decide ((D.asI (at_ s1 0)) < (((D.asL a0)).length : Int))) then
            if (decide (0 ≤ (D.asI (at_ s1 0)) ∧ (D.asI (at_ s1 0)) < (((D.asL a0)).length : Int))) then
            (R 9 [(at_ (D.asL a0) (Int.toNat (D.asI (at_ s1 0)))), a1]).bind fun r2 =>
            if (!((D.asI (at_ r2 1)) == (0 : Int))) then
              some (2, [(D.list []), (at_ r2 1)])
            else
              some (0, [(D.int (IntKind.wrap .i64 ((D.asI (at_ s1 0)) + (1 : Int))))])
            else none
          else
            some (589830, [])) [(D.int 0)]).bind fun o0 =>
      if o0.1 = 589830 then
        (R 27 [a1, a2]).bind fun r1 =>
        if (!(D.asB (at_ r1 0))) then
          some (2, [(D.list []), (D.int 16)])
        else
          if (D.asB (U2.ev (.ble 34359738368) (D.int (((D.asL a2)).length : Int)) (D.int (((D.asL a2)).length : Int)))) then
          (loopL (fun s3 =>
              if (decide ((D.asI (at_ s3 0)) < (((D.asL a2)).length : Int))) then
                if (decide (0 ≤ (D.asI (at_ s3 0)) ∧ (D.asI (at_ s3 0)) < (((D.asL a2)).length : Int))) then
                if (decide (0 ≤ (D.asI (at_ s3 0)) ∧ (D.asI (at_ s3 0)) < (((D.asL (at_ s3 1))).length : Int))) then
                some (0, [(D.int (IntKind.wrap .i64 ((D.asI (at_ s3 0)) + (1 : Int)))), (D.list (((D.asL (at_ s3 1))).set (Int.toNat (D.asI (at_ s3 0))) (D.agg ((at_ (D.asA (at_ (D.asL a2) (Int.toNat (D.asI (at_ s3 0))))) 0) :: ((D.list []) :: ((at_ (D.asA (at_ (D.asL a2) (Int.toNat (D.asI (at_ s3 0))))) 2) :: ([] : List D)))))))])
                else none
                else none
              else
                some (1900552, [(at_ s3 1)])) [(D.int 0), (D.list (List.replicate (Int.toNat (((D.asL a2)).length : Int)) (D.agg ((D.int 0) :: ((D.list []) :: ((D.int 0) :: ([] : List D)))))))]).bind fun o2 =>
          if o2.1 = 1900552 then
            (loopL (fun s4 =>
                if (decide ((D.asI (at_ s4 0)) < (((D.asL a0)).length : Int))) then
                  if (decide (0 ≤ (D.asI (at_ s4 0)) ∧ (D.asI (at_ s4 0)) < (((D.asL a0)).length : Int))) then
                  (R 28 [(at_ (D.asL a0) (Int.toNat (D.asI (at_ s4 0)))), a2]).bind fun r5 =>
                  (loopL (fun s7 =>
                      if (decide ((D.asI (at_ s7 0)) < (((D.asL (at_ r5 0))).length : Int))) then
                        if (decide (0 ≤ (D.asI (at_ s7 0)) ∧ (D.asI (at_ s7 0)) < (((D.asL (at_ r5 0))).length : Int))) then
                        if (decide (0 ≤ (D.asI (at_ s7 0)) ∧ (D.asI (at_ s7 0)) < (((D.asL (at_ s7 1))).length : Int))) then
                        if (D.asB (U2.ev (.fits 34359738368) (D.int (((D.asL (at_ (D.asA (at_ (D.asL (at_ s7 1)) (Int.toNat (D.asI (at_ s7 0))))) 1))).length : Int)) (D.int ((((at_ (D.asL (at_ r5 0)) (Int.toNat (D.asI (at_ s7 0)))) :: ([] : List D))).length : Int)))) then
                        if (decide (0 ≤ (D.asI (at_ s7 0)) ∧ (D.asI (at_ s7 0)) < (((D.asL (at_ s7 1))).length : Int))) then
                        some (0, [(D.int (IntKind.wrap .i64 ((D.asI (at_ s7 0)) + (1 : Int)))), (D.list (((D.asL (at_ s7 1))).set (Int.toNat (D.asI (at_ s7 0))) (D.agg (((D.asA (at_ (D.asL (at_ s7 1)) (Int.toNat (D.asI (at_ s7 0)))))).set 1 (D.list ((D.asL (at_ (D.asA (at_ (D.asL (at_ s7 1)) (Int.toNat (D.asI (at_ s7 0))))) 1)) ++ [(at_ (D.asL (at_ r5 0)) (Int.toNat (D.asI (at_ s7 0))))]))))))])
                        else none
                        else none
                        else none
                        else none
                      else
                        some (2949132, [(D.bool (decide ((D.asI (at_ s7 0)) < (((D.asL (at_ r5 0))).length : Int)))), (at_ s7 0), (at_ s7 1)])) [(D.int 0), (at_ s4 1)]).bind fun o6 =>
                  if o6.1 = 2949132 then
                    some (0, [(D.int (IntKind.wrap .i64 ((D.asI (at_ s4 0)) + (1 : Int)))), (at_ o6.2 2)])
                  else some o6
                  else none
                else
                  some (2555914, [(at_ s4 1)])) [(D.int 0), (at_ o2.2 0)]).bind fun o3 =>
            if o3.1 = 2555914 then
              some (2, [(at_ o3.2 0), (D.int 0)])
            else some o3
          else some o2
          else none
      else some o0 : Option Out) := by kernel_rfl
-- errata/vm.fits
def h27 : List (Nat × List (Nat × Tm × Nat)) := [(5, [(0, ⟨[(0, (.dat (.slice 3) (.var 0))), (9, (.dat (.slice 37) (.var 1))), (10, (.dat (.int .i64) (.un .len (.var 1)))), (11, (.dat (.int .i64) (.var 2))), (4, (.dat (.bool) (.bool false)))], []⟩, 1), (3, ⟨[(4, (.dat (.bool) (.bool false)))], []⟩, 0)]), (15, [(0, ⟨[(28, (.dat (.int .i64) (.un .len (.var 0)))), (29, (.dat (.int .i64) (.var 4))), (27, (.dat (.slice 3) (.var 0))), (26, (.dat (.bool) (.bin .or (.un .not (.bin .ieq (.un .len (.un (.fld 1) (.bin .idx (.var 1) (.var 2)))) (.un .len (.var 0)))) (.un .not (.var 3))))), (21, (.dat (.bool) (.un .not (.bin .ieq (.un .len (.un (.fld 1) (.bin .idx (.var 1) (.var 2)))) (.un .len (.var 0)))))), (20, (.dat (.bool) (.un .not (.bin .ieq (.un .len (.un (.fld 1) (.bin .idx (.var 1) (.var 2)))) (.un .len (.var 0)))))), (19, (.dat (.int .i64) (.un .len (.var 0)))), (17, (.dat (.int .i64) (.un .len (.un (.fld 1) (.bin .idx (.var 1) (.var 2)))))), (18, (.dat (.slice 3) (.var 0))), (0, (.dat (.slice 3) (.var 0))), (16, (.dat (.slice 39) (.un (.fld 1) (.bin .idx (.var 1) (.var 2))))), (15, (.bptr 48 [1] 33)), (14, (.dat (.struct 37) (.bin .idx (.var 1) (.var 2)))), (6, (.bptr 48 [] 37)), (13, (.dat (.ptr 37) (.un .mkptr (.bin .idx (.var 1) (.var 2))))), (9, (.dat (.slice 37) (.var 1))), (12, (.dat (.bool) (.bin .ilt (.var 2) (.un .len (.var 1))))), (10, (.dat (.int .i64) (.un .len (.var 1)))), (11, (.dat (.int .i64) (.var 2))), (4, (.dat (.bool) (.bool false)))], [(48, (.box 37 (.dat (.struct 37) (.bin .idx (.var 1) (.var 2)))))]⟩, 1), (5, ⟨[(30, (.dat (.bool) (.var 4))), (28, (.dat (.int .i64) (.un .len (.var 0)))), (29, (.dat (.int .i64) (.var 5))), (27, (.dat (.slice 3) (.var 0))), (26, (.dat (.bool) (.bin .or (.un .not (.bin .ieq (.un .len (.un (.fld 1) (.bin .idx (.var 1) (.var 2)))) (.un .len (.var 0)))) (.un .not (.var 3))))), (21, (.dat (.bool) (.un .not (.bin .ieq (.un .len (.un (.fld 1) (.bin .idx (.var 1) (.var 2)))) (.un .len (.var 0)))))), (20, (.dat (.bool) (.un .not (.bin .ieq (.un .len (.un (.fld 1) (.bin .idx (.var 1) (.var 2)))) (.un .len (.var 0)))))), (19, (.dat (.int .i64) (.un .len (.var 0)))), (17, (.dat (.int .i64) (.un .len (.un (.fld 1) (.bin .idx (.var 1) (.var 2)))))), (18, (.dat (.slice 3) (.var 0))), (0, (.dat (.slice 3) (.var 0))), (16, (.dat (.slice 39) (.un (.fld 1) (.bin .idx (.var 1) (.var 2))))), (15, (.bptr 48 [1] 33)), (14, (.dat (.struct 37) (.bin .idx (.var 1) (.var 2)))), (6, (.bptr 48 [] 37)), (13, (.dat (.ptr 37) (.un .mkptr (.bin .idx (.var 1) (.var 2))))), (9, (.dat (.slice 37) (.var 1))), (12, (.dat (.bool) (.bin .ilt (.var 2) (.un .len (.var 1))))), (10, (.dat (.int .i64) (.un .len (.var 1)))), (11, (.dat (.int .i64) (.var 2))), (4, (.dat (.bool) (.bool false)))], [(48, (.box 37 (.dat (.struct 37) (.bin .idx (.var 1) (.var 2)))))]⟩, 2)])]
def il27 : IL := (.bindc (.loop [(.int 0)] (.ite (.bin .ilt (.var 2) (.un .len (.var 1))) (.chk (.bin .inb (.un .len (.var 1)) (.var 2)) (.call [((.un .not (.bin .ieq (.un .len (.un (.fld 1) (.bin .idx (.var 1) (.var 2)))) (.un .len (.var 0)))), false)] 1 42 [(.un (.fld 1) (.bin .idx (.var 1) (.var 2)))] (.ite (.bin .or (.un .not (.bin .ieq (.un .len (.un (.fld 1) (.bin .idx (.var 1) (.var 2)))) (.un .len (.var 0)))) (.un .not (.var 3))) (.out 2 [(.bool false)]) (.bindc (.loop [(.int 0)] (.ite (.bin .ilt (.var 4) (.un .len (.var 0))) (.chk (.bin .inb (.un .len (.var 0)) (.var 4)) (.chk (.bin .inb (.un .len (.un (.fld 1) (.bin .idx (.var 1) (.var 2)))) (.var 4)) (.ite (.un .not (.bin .ieq (.un (.fld 0) (.bin .idx (.un (.fld 1) (.bin .idx (.var 1) (.var 2))) (.var 4))) (.bin .idx (.var 0) (.var 4)))) (.out 2 [(.bool false)]) (.out 0 [(.bin (.add .i64) (.var 4) (.int 1))])))) (.out 983048 [(.bin .ilt (.var 4) (.un .len (.var 0))), (.var 4)]))) 983048 2 (.out 0 [(.bin (.add .i64) (.var 2) (.int 1))]))))) (.out 327686 []))) 327686 0 (.out 2 [(.bool true)]))
theorem d27 : decompF C ⟨[.slice 3, .slice 37], [.bool], [false]⟩ Tryd.f27 h27 = some il27 := by kernel_rfl
theorem e27 (R : Fns) (a0 a1 : D) : den C.G R il27 [a0, a1] =
    ((loopL (fun s1 =>
        if (decide ((D.asI (at_ s1 0)) < (((D.asL a1)).length : Int))) then
          if (decide (0 ≤ (D.asI (at_ s1 0)) ∧ (D.asI (at_ s1 0)) < (((D.asL a1)).length : Int))) then
          callIf (((!((((D.asL (at_ (D.asA (at_ (D.asL a1) (Int.toNat (D.asI (at_ s1 0))))) 1))).length : Int) == (((D.asL a0)).length : Int))) == false) && true) (R 42 [(at_ (D.asA (at_ (D.asL a1) (Int.toNat (D.asI (at_ s1 0))))) 1)]) fun r2 =>
          if ((!((((D.asL (at_ (D.asA (at_ (D.asL a1) (Int.toNat (D.asI (at_ s1 0))))) 1))).length : Int) == (((D.asL a0)).length : Int))) || (!(D.asB (at_ r2 0)))) then
            some (2, [(D.bool false)])
          else
            (loopL (fun s4 =>
                if (decide ((D.asI (at_ s4 0)) < (((D.asL a0)).length : Int))) then
                  if (decide (0 ≤ (D.asI (at_ s4 0)) ∧ (D.asI (at_ s4 0)) < (((D.asL a0)).length : Int))) then
                  if (decide (0 ≤ (D.asI (at_ s4 0)) ∧ (D.asI (at_ s4 0)) < (((D.asL (at_ (D.asA (at_ (D.asL a1) (Int.toNat (D.asI (at_ s1 0))))) 1))).length : Int))) then
                  if (!((D.asI (at_ (D.asA (at_ (D.asL (at_ (D.asA (at_ (D.asL a1) (Int.toNat (D.asI (at_ s1 0))))) 1)) (Int.toNat (D.asI (at_ s4 0))))) 0)) == (D.asI (at_ (D.asL a0) (Int.toNat (D.asI (at_ s4 0))))))) then
                    some (2, [(D.bool false)])
                  else
                    some (0, [(D.int (IntKind.wrap .i64 ((D.asI (at_ s4 0)) + (1 : Int))))])
                  else none
                  else none
                else
                  some (983048, [(D.bool (decide ((D.asI (at_ s4 0)) < (((D.asL a0)).length : Int)))), (at_ s4 0)])) [(D.int 0)]).bind fun o3 =>
            if o3.1 = 983048 then
              some (0, [(D.int (IntKind.wrap .i64 ((D.asI (at_ s1 0)) + (1 : Int))))])
            else some o3
          else none
        else
          some (327686, [])) [(D.int 0)]).bind fun o0 =>
    if o0.1 = 327686 then
      some (2, [(D.bool true)])
    else some o0 : Option Out) := by kernel_rfl
-- slices.Clone[[]errata/api.Value,errata/api.Value]
def h32 : List (Nat × List (Nat × Tm × Nat)) := []
def il32 : IL := (.ite (.bin .ieq (.un .len (.var 0)) (.int 0)) (.both (.out 2 [.lnil]) (.chk (.bin (.fits 34359738368) (.un .len .lnil) (.un .len (.var 0))) (.out 2 [(.bin .app .lnil (.var 0))]))) (.chk (.bin (.fits 34359738368) (.un .len .lnil) (.un .len (.var 0))) (.out 2 [(.bin .app .lnil (.var 0))])))
theorem d32 : decompF C ⟨[.slice 39], [.slice 39], [true]⟩ Tryd.f32 h32 = some il32 := by kernel_rfl
theorem e32 (R : Fns) (a0 : D) : den C.G R il32 [a0] =
    (if ((((D.asL a0)).length : Int) == (0 : Int)) then
      bothO (some (2, [(D.list [])]))
        (if (D.asB (U2.ev (.fits 34359738368) (D.int ((([] : List D)).length : Int)) (D.int (((D.asL a0)).length : Int)))) then
        some (2, [(D.list (([] : List D) ++ (D.asL a0)))])
        else none)
    else
      if (D.asB (U2.ev (.fits 34359738368) (D.int ((([] : List D)).length : Int)) (D.int (((D.asL a0)).length : Int)))) then
      some (2, [(D.list (([] : List D) ++ (D.asL a0)))])
      else none : Option Out) := by kernel_rfl
-- errata/expr.Type
def h41 : List (Nat × List (Nat × Tm × Nat)) := []
def il41 : IL := (.call [] 1 57 [(.var 0)] (.ite (.un .not (.var 4)) (.out 2 [(.int 0), (.bool false)]) (.call [] 2 58 [(.un .mkagg (.bin .cons (.var 0) (.bin .cons (.var 1) (.bin .cons (.var 2) .lnil)))), (.var 3)] (.out 2 [(.var 5), (.var 6)]))))
theorem d41 : decompF C ⟨[.slice 107, .slice 3, .slice 3, .struct 75], [.int .i64, .bool], [false, false]⟩ Tryd.f41 h41 = some il41 := by kernel_rfl
theorem e41 (R : Fns) (a0 a1 a2 a3 : D) : den C.G R il41 [a0, a1, a2, a3] =
    ((R 57 [a0]).bind fun r0 =>
    if (!(D.asB (at_ r0 0))) then
      some (2, [(D.int 0), (D.bool false)])
    else
      (R 58 [(D.agg (a0 :: (a1 :: (a2 :: ([] : List D))))), a3]).bind fun r1 =>
      some (2, [(at_ r1 0), (at_ r1 1)]) : Option Out) := by kernel_rfl
-- errata/errataref03.Compare
def h47 : List (Nat × List (Nat × Tm × Nat)) := []
def il47 : IL := (.ite (.bin .ilt (.un (.fld 0) (.var 0)) (.un (.fld 0) (.var 1))) (.out 2 [(.int (-1))]) (.ite (.bin .ilt (.un (.fld 0) (.var 1)) (.un (.fld 0) (.var 0))) (.out 2 [(.int 1)]) (.ite (.bin .ilt (.un (.fld 1) (.var 0)) (.un (.fld 1) (.var 1))) (.out 2 [(.int (-1))]) (.ite (.bin .ilt (.un (.fld 1) (.var 1)) (.un (.fld 1) (.var 0))) (.out 2 [(.int 1)]) (.ite (.bin .slt (.un (.fld 2) (.var 0)) (.un (.fld 2) (.var 1))) (.out 2 [(.int (-1))]) (.ite (.bin .slt (.un (.fld 2) (.var 1)) (.un (.fld 2) (.var 0))) (.out 2 [(.int 1)]) (.out 2 [(.int 0)])))))))
theorem d47 : decompF C ⟨[.struct 39, .struct 39], [.int .i64], [false]⟩ Tryd.f47 h47 = some il47 := by kernel_rfl
theorem e47 (R : Fns) (a0 a1 : D) : den C.G R il47 [a0, a1] =
    (if (decide ((D.asI (at_ (D.asA a0) 0)) < (D.asI (at_ (D.asA a1) 0)))) then
      some (2, [(D.int (-1))])
    else
      if (decide ((D.asI (at_ (D.asA a1) 0)) < (D.asI (at_ (D.asA a0) 0)))) then
        some (2, [(D.int 1)])
      else
        if (decide ((D.asI (at_ (D.asA a0) 1)) < (D.asI (at_ (D.asA a1) 1)))) then
          some (2, [(D.int (-1))])
        else
          if (decide ((D.asI (at_ (D.asA a1) 1)) < (D.asI (at_ (D.asA a0) 1)))) then
            some (2, [(D.int 1)])
          else
            if (strLt (D.asS (at_ (D.asA a0) 2)) (D.asS (at_ (D.asA a1) 2))) then
              some (2, [(D.int (-1))])
            else
              if (strLt (D.asS (at_ (D.asA a1) 2)) (D.asS (at_ (D.asA a0) 2))) then
                some (2, [(D.int 1)])
              else
                some (2, [(D.int 0)]) : Option Out) := by kernel_rfl
-- errata/errataref25.typed
def h50 : List (Nat × List (Nat × Tm × Nat)) := [(9, [(0, ⟨[(9, (.dat (.slice 3) (.var 3))), (10, (.dat (.int .i64) (.var 4))), (8, (.bptr 64 [] 75)), (2, (.dat (.slice 3) (.var 2))), (1, (.dat (.slice 3) (.var 1))), (7, (.dat (.bool) (.bool false))), (6, (.dat (.int .i64) (.int 0)))], [(64, (.box 75 (.agg 75 [(.dat (.int .i64) (.un (.fld 0) (.var 0))), (.dat (.int .i64) (.un (.fld 5) (.var 0))), (.dat (.str) (.un (.fld 6) (.var 0))), (.sli 272 0 75)]))), (272, (.arr 75 (.var 5) 0))]⟩, 2), (3, ⟨[(8, (.bptr 64 [] 75)), (2, (.dat (.slice 3) (.var 2))), (1, (.dat (.slice 3) (.var 1))), (7, (.dat (.bool) (.bool false))), (6, (.dat (.int .i64) (.int 0)))], [(64, (.box 75 (.agg 75 [(.dat (.int .i64) (.un (.fld 0) (.var 0))), (.dat (.int .i64) (.un (.fld 5) (.var 0))), (.dat (.str) (.un (.fld 6) (.var 0))), (.sli 272 0 75)]))), (272, (.arr 75 (.var 4) 0))]⟩, 1)])]
def il50 : IL := (.call [] 1 49 [(.var 0)] (.bindc (.loop [(.int 0), .lnil] (.ite (.bin .ilt (.var 4) (.un .len (.var 3))) (.chk (.bin .inb (.un .len (.var 3)) (.var 4)) (.chk (.bin (.fits 34359738368) (.un .len (.var 5)) (.un .len (.bin .cons (.un .mkagg (.bin .cons (.int 4) (.bin .cons (.bin .idx (.var 3) (.var 4)) (.bin .cons (.str []) (.bin .cons .lnil .lnil))))) .lnil))) (.out 0 [(.bin (.add .i64) (.var 4) (.int 1)), (.bin .snoc (.var 5) (.un .mkagg (.bin .cons (.int 4) (.bin .cons (.bin .idx (.var 3) (.var 4)) (.bin .cons (.str []) (.bin .cons .lnil .lnil))))))]))) (.out 589830 [(.var 5)]))) 589830 1 (.call [] 2 72 [.lnil, (.var 1), (.var 2), (.un .mkagg (.bin .cons (.un (.fld 0) (.var 0)) (.bin .cons (.un (.fld 5) (.var 0)) (.bin .cons (.un (.fld 6) (.var 0)) (.bin .cons (.var 4) .lnil)))))] (.out 2 [(.var 5), (.var 6)]))))
theorem d50 : decompF C ⟨[.struct 52, .slice 3, .slice 3], [.int .i64, .bool], [false, false]⟩ Tryd.f50 h50 = some il50 := by kernel_rfl
theorem e50 (R : Fns) (a0 a1 a2 : D) : den C.G R il50 [a0, a1, a2] =
    ((R 49 [a0]).bind fun r0 =>
    (loopL (fun s2 =>
        if (decide ((D.asI (at_ s2 0)) < (((D.asL (at_ r0 0))).length : Int))) then
          if (decide (0 ≤ (D.asI (at_ s2 0)) ∧ (D.asI (at_ s2 0)) < (((D.asL (at_ r0 0))).length : Int))) then
          if (D.asB (U2.ev (.fits 34359738368) (D.int (((D.asL (at_ s2 1))).length : Int)) (D.int ((((D.agg ((D.int 4) :: ((at_ (D.asL (at_ r0 0)) (Int.toNat (D.asI (at_ s2 0)))) :: ((D.str []) :: ((D.list []) :: ([] : List D)))))) :: ([] : List D))).length : Int)))) then
          some (0, [(D.int (IntKind.wrap .i64 ((D.asI (at_ s2 0)) + (1 : Int)))), (D.list ((D.asL (at_ s2 1)) ++ [(D.agg ((D.int 4) :: ((at_ (D.asL (at_ r0 0)) (Int.toNat (D.asI (at_ s2 0)))) :: ((D.str []) :: ((D.list []) :: ([] : List D))))))]))])
          else none
          else none
        else
          some (589830, [(at_ s2 1)])) [(D.int 0), (D.list [])]).bind fun o1 =>
    if o1.1 = 589830 then
      (R 72 [(D.list []), a1, a2, (D.agg ((at_ (D.asA a0) 0) :: ((at_ (D.asA a0) 5) :: ((at_ (D.asA a0) 6) :: ((at_ o1.2 0) :: ([] : List D))))))]).bind fun r2 =>
      some (2, [(at_ r2 0), (at_ r2 1)])
    else some o1 : Option Out) := by kernel_rfl
-- errata/code.bare
def h55 : List (Nat × List (Nat × Tm × Nat)) := [(18, [(1, ⟨[(3, (.bptr 24 [] 52)), (1, (.bptr 8 [] 52)), (2, (.bptr 16 [] 52))], [(24, (.box 52 (.agg 52 [(.dat (.int .i64) (.un (.fld 0) (.var 0))), (.dat (.int .i64) (.un (.fld 1) (.var 0))), (.dat (.int .i64) (.var 1)), (.dat (.int .i64) (.var 2)), (.dat (.int .i64) (.var 3)), (.dat (.int .i64) (.int 0)), (.dat (.str) (.str []))]))), (8, (.box 52 (.dat (.struct 52) (.var 0)))), (16, (.box 52 (.agg 52 [(.dat (.int .i64) (.int 0)), (.dat (.int .i64) (.int 0)), (.dat (.int .i64) (.int 0)), (.dat (.int .i64) (.int 0)), (.dat (.int .i64) (.int 0)), (.dat (.int .i64) (.int 0)), (.dat (.str) (.str []))])))]⟩, 3)]), (32, [(1, ⟨[(3, (.bptr 24 [] 52)), (2, (.bptr 16 [] 52))], [(24, (.box 52 (.agg 52 [(.dat (.int .i64) (.un (.fld 0) (.var 0))), (.dat (.int .i64) (.un (.fld 1) (.var 0))), (.dat (.int .i64) (.var 1)), (.dat (.int .i64) (.var 2)), (.dat (.int .i64) (.var 3)), (.dat (.int .i64) (.var 4)), (.dat (.str) (.var 5))]))), (16, (.box 52 (.agg 52 [(.dat (.int .i64) (.int 0)), (.dat (.int .i64) (.int 0)), (.dat (.int .i64) (.int 0)), (.dat (.int .i64) (.int 0)), (.dat (.int .i64) (.int 0)), (.dat (.int .i64) (.int 0)), (.dat (.str) (.str []))])))]⟩, 2)]), (26, [(1, ⟨[(28, (.dat (.int .i64) (.un (.fld 0) (.var 0)))), (1, (.bptr 8 [] 52)), (29, (.dat (.bool) (.var 4))), (3, (.bptr 24 [] 52)), (2, (.bptr 16 [] 52))], [(8, (.box 52 (.dat (.struct 52) (.var 0)))), (24, (.box 52 (.agg 52 [(.dat (.int .i64) (.un (.fld 0) (.var 0))), (.dat (.int .i64) (.un (.fld 1) (.var 0))), (.dat (.int .i64) (.var 1)), (.dat (.int .i64) (.var 2)), (.dat (.int .i64) (.var 3)), (.dat (.int .i64) (.int 0)), (.dat (.str) (.str []))]))), (16, (.box 52 (.agg 52 [(.dat (.int .i64) (.int 0)), (.dat (.int .i64) (.int 0)), (.dat (.int .i64) (.int 0)), (.dat (.int .i64) (.int 0)), (.dat (.int .i64) (.int 0)), (.dat (.int .i64) (.int 0)), (.dat (.str) (.str []))])))]⟩, 1)]), (16, [(1, ⟨[(3, (.bptr 24 [] 52)), (1, (.bptr 8 [] 52)), (2, (.bptr 16 [] 52))], [(24, (.box 52 (.agg 52 [(.dat (.int .i64) (.un (.fld 0) (.var 0))), (.dat (.int .i64) (.un (.fld 1) (.var 0))), (.dat (.int .i64) (.int 0)), (.dat (.int .i64) (.var 2)), (.dat (.int .i64) (.var 3)), (.dat (.int .i64) (.int 0)), (.dat (.str) (.str []))]))), (8, (.box 52 (.dat (.struct 52) (.var 0)))), (16, (.box 52 (.agg 52 [(.dat (.int .i64) (.int 0)), (.dat (.int .i64) (.int 0)), (.dat (.int .i64) (.int 0)), (.dat (.int .i64) (.int 0)), (.dat (.int .i64) (.int 0)), (.dat (.int .i64) (.int 0)), (.dat (.str) (.str []))])))]⟩, 2), (3, ⟨[(3, (.bptr 24 [] 52)), (1, (.bptr 8 [] 52)), (2, (.bptr 16 [] 52))], [(24, (.box 52 (.agg 52 [(.dat (.int .i64) (.un (.fld 0) (.var 0))), (.dat (.int .i64) (.un (.fld 1) (.var 0))), (.dat (.int .i64) (.int 0)), (.dat (.int .i64) (.int 0)), (.dat (.int .i64) (.int 0)), (.dat (.int .i64) (.int 0)), (.dat (.str) (.str []))]))), (8, (.box 52 (.dat (.struct 52) (.var 0)))), (16, (.box 52 (.agg 52 [(.dat (.int .i64) (.int 0)), (.dat (.int .i64) (.int 0)), (.dat (.int .i64) (.int 0)), (.dat (.int .i64) (.int 0)), (.dat (.int .i64) (.int 0)), (.dat (.int .i64) (.int 0)), (.dat (.str) (.str []))])))]⟩, 0)]), (14, [(1, ⟨[(3, (.bptr 24 [] 52)), (1, (.bptr 8 [] 52)), (2, (.bptr 16 [] 52))], [(24, (.box 52 (.agg 52 [(.dat (.int .i64) (.un (.fld 0) (.var 0))), (.dat (.int .i64) (.un (.fld 1) (.var 0))), (.dat (.int .i64) (.int 0)), (.dat (.int .i64) (.int 0)), (.dat (.int .i64) (.var 2)), (.dat (.int .i64) (.int 0)), (.dat (.str) (.str []))]))), (8, (.box 52 (.dat (.struct 52) (.var 0)))), (16, (.box 52 (.agg 52 [(.dat (.int .i64) (.int 0)), (.dat (.int .i64) (.int 0)), (.dat (.int .i64) (.int 0)), (.dat (.int .i64) (.int 0)), (.dat (.int .i64) (.int 0)), (.dat (.int .i64) (.int 0)), (.dat (.str) (.str []))])))]⟩, 1), (6, ⟨[(3, (.bptr 24 [] 52)), (1, (.bptr 8 [] 52)), (2, (.bptr 16 [] 52))], [(24, (.box 52 (.agg 52 [(.dat (.int .i64) (.un (.fld 0) (.var 0))), (.dat (.int .i64) (.un (.fld 1) (.var 0))), (.dat (.int .i64) (.int 0)), (.dat (.int .i64) (.int 0)), (.dat (.int .i64) (.int 0)), (.dat (.int .i64) (.int 0)), (.dat (.str) (.str []))]))), (8, (.box 52 (.dat (.struct 52) (.var 0)))), (16, (.box 52 (.agg 52 [(.dat (.int .i64) (.int 0)), (.dat (.int .i64) (.int 0)), (.dat (.int .i64) (.int 0)), (.dat (.int .i64) (.int 0)), (.dat (.int .i64) (.int 0)), (.dat (.int .i64) (.int 0)), (.dat (.str) (.str []))])))]⟩, 0), (3, ⟨[(3, (.bptr 24 [] 52)), (1, (.bptr 8 [] 52)), (2, (.bptr 16 [] 52))], [(24, (.box 52 (.agg 52 [(.dat (.int .i64) (.un (.fld 0) (.var 0))), (.dat (.int .i64) (.un (.fld 1) (.var 0))), (.dat (.int .i64) (.int 0)), (.dat (.int .i64) (.int 0)), (.dat (.int .i64) (.int 0)), (.dat (.int .i64) (.int 0)), (.dat (.str) (.str []))]))), (8, (.box 52 (.dat (.struct 52) (.var 0)))), (16, (.box 52 (.agg 52 [(.dat (.int .i64) (.int 0)), (.dat (.int .i64) (.int 0)), (.dat (.int .i64) (.int 0)), (.dat (.int .i64) (.int 0)), (.dat (.int .i64) (.int 0)), (.dat (.int .i64) (.int 0)), (.dat (.str) (.str []))])))]⟩, 0)])]
def il55 : IL := (.bindc (.call [] 1 56 [(.un (.fld 0) (.var 0))] (.bindc (.bindc (.bindc (.bindc (.bindc (.ite (.bin .ieq (.var 1) (.int 3)) (.out 917508 [(.un (.fld 4) (.var 0))]) (.ite (.bin .ieq (.var 1) (.int 2)) (.out 917508 [(.int 0)]) (.ite (.bin .ieq (.var 1) (.int 1)) (.out 917513 []) (.out 917510 [])))) 917508 1 (.out 1048580 [(.un (.fld 3) (.var 0)), (.var 2)])) 917513 0 (.out 1048580 [(.int 0), (.int 0)])) 917510 0 (.out 1048582 [])) 1048580 2 (.out 1179652 [(.un (.fld 2) (.var 0)), (.var 2), (.var 3)])) 1048582 0 (.out 1179652 [(.int 0), (.int 0), (.int 0)]))) 1179652 3 (.bindc (.bindc (.ite (.bin .ieq (.un (.fld 0) (.var 0)) (.int 0)) (.out 1703940 [(.bin .ieq (.un (.fld 0) (.var 0)) (.int 0))]) (.ite (.bin .ieq (.un (.fld 0) (.var 0)) (.int 2)) (.out 1703940 [(.bin .ieq (.un (.fld 0) (.var 0)) (.int 2))]) (.out 1703940 [(.bin .ieq (.un (.fld 0) (.var 0)) (.int 3))]))) 1703940 1 (.ite (.var 4) (.out 2097156 [(.un (.fld 5) (.var 0)), (.str [])]) (.ite (.bin .ieq (.un (.fld 0) (.var 0)) (.int 1)) (.out 2097156 [(.int 0), (.un (.fld 6) (.var 0))]) (.out 2097156 [(.int 0), (.str [])])))) 2097156 2 (.out 2 [(.un .mkagg (.bin .cons (.un (.fld 0) (.var 0)) (.bin .cons (.un (.fld 1) (.var 0)) (.bin .cons (.var 1) (.bin .cons (.var 2) (.bin .cons (.var 3) (.bin .cons (.var 4) (.bin .cons (.var 5) .lnil))))))))])))
theorem d55 : decompF C ⟨[.struct 52], [.struct 52], [false]⟩ Tryd.f55 h55 = some il55 := by kernel_rfl
theorem e55 (R : Fns) (a0 : D) : den C.G R il55 [a0] =
    (((R 56 [(at_ (D.asA a0) 0)]).bind fun r1 =>
      (((((if ((D.asI (at_ r1 0)) == (3 : Int)) then
                  some (917508, [(at_ (D.asA a0) 4)])
                else
                  if ((D.asI (at_ r1 0)) == (2 : Int)) then
                    some (917508, [(D.int 0)])
                  else
                    if ((D.asI (at_ r1 0)) == (1 : Int)) then
                      some (917513, [])
                    else
                      some (917510, [])).bind fun o6 =>
              if o6.1 = 917508 then
                some (1048580, [(at_ (D.asA a0) 3), (at_ o6.2 0)])
              else some o6).bind fun o5 =>
            if o5.1 = 917513 then
              some (1048580, [(D.int 0), (D.int 0)])
            else some o5).bind fun o4 =>
          if o4.1 = 917510 then
            some (1048582, [])
          else some o4).bind fun o3 =>
        if o3.1 = 1048580 then
          some (1179652, [(at_ (D.asA a0) 2), (at_ o3.2 0), (at_ o3.2 1)])
        else some o3).bind fun o2 =>
      if o2.1 = 1048582 then
        some (1179652, [(D.int 0), (D.int 0), (D.int 0)])
      else some o2).bind fun o0 =>
    if o0.1 = 1179652 then
      ((if ((D.asI (at_ (D.asA a0) 0)) == (0 : Int)) then
            some (1703940, [(D.bool ((D.asI (at_ (D.asA a0) 0)) == (0 : Int)))])
          else
            if ((D.asI (at_ (D.asA a0) 0)) == (2 : Int)) then
              some (1703940, [(D.bool ((D.asI (at_ (D.asA a0) 0)) == (2 : Int)))])
            else
              some (1703940, [(D.bool ((D.asI (at_ (D.asA a0) 0)) == (3 : Int)))])).bind fun o2 =>
        if o2.1 = 1703940 then
          if (D.asB (at_ o2.2 0)) then
            some (2097156, [(at_ (D.asA a0) 5), (D.str [])])
          else
            if ((D.asI (at_ (D.asA a0) 0)) == (1 : Int)) then
              some (2097156, [(D.int 0), (at_ (D.asA a0) 6)])
            else
              some (2097156, [(D.int 0), (D.str [])])
        else some o2).bind fun o1 =>
      if o1.1 = 2097156 then
        some (2, [(D.agg ((at_ (D.asA a0) 0) :: ((at_ (D.asA a0) 1) :: ((at_ o0.2 0) :: ((at_ o0.2 1) :: ((at_ o0.2 2) :: ((at_ o1.2 0) :: ((at_ o1.2 1) :: ([] : List D)))))))))])
      else some o1
    else some o0 : Option Out) := by kernel_rfl
-- errata/value.Bool
def h63 : List (Nat × List (Nat × Tm × Nat)) := []
def il63 : IL := (.ite (.var 0) (.out 2 [(.un .mkagg (.bin .cons (.int 2) (.bin .cons (.int 1) (.bin .cons (.str []) .lnil))))]) (.out 2 [(.un .mkagg (.bin .cons (.int 2) (.bin .cons (.int 0) (.bin .cons (.str []) .lnil))))]))
theorem d63 : decompF C ⟨[.bool], [.struct 39], [false]⟩ Tryd.f63 h63 = some il63 := by kernel_rfl
theorem e63 (R : Fns) (a0 : D) : den C.G R il63 [a0] =
    (if (D.asB a0) then
      some (2, [(D.agg ((D.int 2) :: ((D.int 1) :: ((D.str []) :: ([] : List D)))))])
    else
      some (2, [(D.agg ((D.int 2) :: ((D.int 0) :: ((D.str []) :: ([] : List D)))))]) : Option Out) := by kernel_rfl
-- (*errata/vm.machine).one$1
def h65 : List (Nat × List (Nat × Tm × Nat)) := []
def il65 : IL := (.chk (.un .isptr (.var 1)) (.chk (.un .isptr (.var 2)) (.ite (.bin .ieq (.un (.fld 0) (.un .deref (.var 1))) (.int 6)) (.chk (.bin .inb (.un .len (.un .deref (.var 2))) (.var 0)) (.call [] 1 63 [(.bin .ieq (.un (.fld 1) (.bin .idx (.un .deref (.var 2)) (.var 0))) (.int 0))] (.out 2 [(.var 3)]))) (.ite (.bin .ieq (.un (.fld 0) (.un .deref (.var 1))) (.int 7)) (.chk (.bin .inb (.un .len (.un .deref (.var 2))) (.var 0)) (.call [] 1 62 [(.un (.neg .i64) (.un (.fld 1) (.bin .idx (.un .deref (.var 2)) (.var 0))))] (.out 2 [(.var 3)]))) (.chk (.bin .inb (.un .len (.un .deref (.var 2))) (.var 0)) (.call [] 1 62 [(.un .slen (.un (.fld 2) (.bin .idx (.un .deref (.var 2)) (.var 0))))] (.out 2 [(.var 3)])))))))
theorem d65 : decompF C ⟨[.int .i64, .ptr 52, .ptr 33], [.struct 39], [false]⟩ Tryd.f65 h65 = some il65 := by kernel_rfl
theorem e65 (R : Fns) (a0 a1 a2 : D) : den C.G R il65 [a0, a1, a2] =
    (if (D.isP a1) then
    if (D.isP a2) then
    if ((D.asI (at_ (D.asA (D.asP a1)) 0)) == (6 : Int)) then
      if (decide (0 ≤ (D.asI a0) ∧ (D.asI a0) < (((D.asL (D.asP a2))).length : Int))) then
      (R 63 [(D.bool ((D.asI (at_ (D.asA (at_ (D.asL (D.asP a2)) (Int.toNat (D.asI a0)))) 1)) == (0 : Int)))]).bind fun r0 =>
      some (2, [(at_ r0 0)])
      else none
    else
      if ((D.asI (at_ (D.asA (D.asP a1)) 0)) == (7 : Int)) then
        if (decide (0 ≤ (D.asI a0) ∧ (D.asI a0) < (((D.asL (D.asP a2))).length : Int))) then
        (R 62 [(D.int (IntKind.wrap .i64 (0 - (D.asI (at_ (D.asA (at_ (D.asL (D.asP a2)) (Int.toNat (D.asI a0)))) 1)))))]).bind fun r0 =>
        some (2, [(at_ r0 0)])
        else none
      else
        if (decide (0 ≤ (D.asI a0) ∧ (D.asI a0) < (((D.asL (D.asP a2))).length : Int))) then
        (R 62 [(D.int (((D.asS (at_ (D.asA (at_ (D.asL (D.asP a2)) (Int.toNat (D.asI a0)))) 2))).length : Int))]).bind fun r0 =>
        some (2, [(at_ r0 0)])
        else none
    else none
    else none : Option Out) := by kernel_rfl
-- errata/errataref25.arity
def h71 : List (Nat × List (Nat × Tm × Nat)) := [(14, [(1, ⟨[(3, (.dat (.int .i64) (.var 0))), (4, (.dat (.bool) (.var 1))), (2, (.dat (.int .i64) (.int 0)))], []⟩, 1)]), (22, [(1, ⟨[(3, (.dat (.int .i64) (.var 0))), (10, (.dat (.bool) (.var 2))), (2, (.dat (.int .i64) (.int 0)))], []⟩, 1)])]
def il71 : IL := (.bindc (.ite (.bin .ieq (.var 0) (.int 0)) (.out 917508 [(.bin .ieq (.var 0) (.int 0))]) (.ite (.bin .ieq (.var 0) (.int 1)) (.out 917508 [(.bin .ieq (.var 0) (.int 1))]) (.ite (.bin .ieq (.var 0) (.int 2)) (.out 917508 [(.bin .ieq (.var 0) (.int 2))]) (.ite (.bin .ieq (.var 0) (.int 3)) (.out 917508 [(.bin .ieq (.var 0) (.int 3))]) (.out 917508 [(.bin .ieq (.var 0) (.int 5))]))))) 917508 1 (.ite (.var 1) (.out 2 [(.int 0)]) (.bindc (.ite (.bin .ieq (.var 0) (.int 6)) (.out 1441796 [(.bin .ieq (.var 0) (.int 6))]) (.ite (.bin .ieq (.var 0) (.int 7)) (.out 1441796 [(.bin .ieq (.var 0) (.int 7))]) (.out 1441796 [(.bin .ieq (.var 0) (.int 20))]))) 1441796 1 (.ite (.var 2) (.out 2 [(.int 1)]) (.ite (.bin .ieq (.var 0) (.int 21)) (.out 2 [(.int 3)]) (.out 2 [(.int 2)]))))))
theorem d71 : decompF C ⟨[.int .i64], [.int .i64], [false]⟩ Tryd.f71 h71 = some il71 := by kernel_rfl
theorem e71 (R : Fns) (a0 : D) : den C.G R il71 [a0] =
    ((if ((D.asI a0) == (0 : Int)) then
        some (917508, [(D.bool ((D.asI a0) == (0 : Int)))])
      else
        if ((D.asI a0) == (1 : Int)) then
          some (917508, [(D.bool ((D.asI a0) == (1 : Int)))])
        else
          if ((D.asI a0) == (2 : Int)) then
            some (917508, [(D.bool ((D.asI a0) == (2 : Int)))])
          else
            if ((D.asI a0) == (3 : Int)) then
              some (917508, [(D.bool ((D.asI a0) == (3 : Int)))])
            else
              some (917508, [(D.bool ((D.asI a0) == (5 : Int)))])).bind fun o0 =>
    if o0.1 = 917508 then
      if (D.asB (at_ o0.2 0)) then
        some (2, [(D.int 0)])
      else
        (if ((D.asI a0) == (6 : Int)) then
            some (1441796, [(D.bool ((D.asI a0) == (6 : Int)))])
          else
            if ((D.asI a0) == (7 : Int)) then
              some (1441796, [(D.bool ((D.asI a0) == (7 : Int)))])
            else
              some (1441796, [(D.bool ((D.asI a0) == (20 : Int)))])).bind fun o1 =>
        if o1.1 = 1441796 then
          if (D.asB (at_ o1.2 0)) then
            some (2, [(D.int 1)])
          else
            if ((D.asI a0) == (21 : Int)) then
              some (2, [(D.int 3)])
            else
              some (2, [(D.int 2)])
        else some o1
    else some o0 : Option Out) := by kernel_rfl
-- errata/errataref25.constant
def h73 : List (Nat × List (Nat × Tm × Nat)) := []
def il73 : IL := (.ite (.bin .ieq (.un (.fld 0) (.var 0)) (.int 1)) (.out 2 [(.un .mkagg (.bin .cons (.int 1) (.bin .cons (.int 0) (.bin .cons (.un (.fld 2) (.var 0)) (.bin .cons .lnil .lnil)))))]) (.ite (.bin .ieq (.un (.fld 0) (.var 0)) (.int 2)) (.out 2 [(.un .mkagg (.bin .cons (.int 2) (.bin .cons (.un (.fld 1) (.var 0)) (.bin .cons (.str []) (.bin .cons .lnil .lnil)))))]) (.out 2 [(.un .mkagg (.bin .cons (.int 0) (.bin .cons (.un (.fld 1) (.var 0)) (.bin .cons (.str []) (.bin .cons .lnil .lnil)))))])))
theorem d73 : decompF C ⟨[.struct 39], [.struct 75], [false]⟩ Tryd.f73 h73 = some il73 := by kernel_rfl
theorem e73 (R : Fns) (a0 : D) : den C.G R il73 [a0] =
    (if ((D.asI (at_ (D.asA a0) 0)) == (1 : Int)) then
      some (2, [(D.agg ((D.int 1) :: ((D.int 0) :: ((at_ (D.asA a0) 2) :: ((D.list []) :: ([] : List D))))))])
    else
      if ((D.asI (at_ (D.asA a0) 0)) == (2 : Int)) then
        some (2, [(D.agg ((D.int 2) :: ((at_ (D.asA a0) 1) :: ((D.str []) :: ((D.list []) :: ([] : List D))))))])
      else
        some (2, [(D.agg ((D.int 0) :: ((at_ (D.asA a0) 1) :: ((D.str []) :: ((D.list []) :: ([] : List D))))))]) : Option Out) := by kernel_rfl
-- (errata/expr.scope).of
def h78 : List (Nat × List (Nat × Tm × Nat)) := [(7, [(0, ⟨[(12, (.dat (.slice 75) (.un (.fld 3) (.var 1)))), (13, (.dat (.int .i64) (.un .len (.un (.fld 3) (.var 1))))), (14, (.dat (.int .i64) (.var 2))), (2, (.bptr 16 [] 95)), (6, (.sli 232 0 3)), (3, (.bptr 24 [] 75)), (5, (.dat (.bool) (.bool false))), (4, (.dat (.int .i64) (.int 0)))], [(16, (.box 95 (.dat (.struct 95) (.var 0)))), (232, (.arr 3 (.var 3) 0)), (24, (.box 75 (.dat (.struct 75) (.var 1))))]⟩, 2), (3, ⟨[(2, (.bptr 16 [] 95)), (6, (.sli 232 0 3)), (3, (.bptr 24 [] 75)), (5, (.dat (.bool) (.bool false))), (4, (.dat (.int .i64) (.int 0)))], [(16, (.box 95 (.dat (.struct 95) (.var 0)))), (232, (.arr 3 (.var 2) 0)), (24, (.box 75 (.dat (.struct 75) (.var 1))))]⟩, 1)])]
def il78 : IL := (.bindc (.loop [(.int 0), .lnil] (.ite (.bin .ilt (.var 2) (.un .len (.un (.fld 3) (.var 1)))) (.chk (.bin .inb (.un .len (.un (.fld 3) (.var 1))) (.var 2)) (.call [] 2 78 [(.var 0), (.bin .idx (.un (.fld 3) (.var 1)) (.var 2))] (.ite (.un .not (.var 5)) (.out 2 [(.int 0), (.bool false)]) (.chk (.bin (.fits 34359738368) (.un .len (.var 3)) (.un .len (.bin .cons (.var 4) .lnil))) (.out 0 [(.bin (.add .i64) (.var 2) (.int 1)), (.bin .snoc (.var 3) (.var 4))]))))) (.out 458758 [(.var 3)]))) 458758 1 (.ite (.bin .and (.un .not (.bin .seq (.un (.fld 2) (.var 1)) (.str []))) (.un .not (.bin .ieq (.un (.fld 0) (.var 1)) (.int 1)))) (.out 2 [(.int 0), (.bool false)]) (.ite (.bin .and (.bin .ieq (.un .len (.var 2)) (.int 0)) (.un .not (.bin .ieq (.un (.fld 0) (.var 1)) (.int 22)))) (.call [] 2 89 [(.var 0), (.var 1)] (.out 2 [(.var 3), (.var 4)])) (.ite (.bin .ieq (.un (.fld 0) (.var 1)) (.int 22)) (.chk (.tri .ite (.bin .or (.bin .ilt (.un (.fld 1) (.var 1)) (.int 0)) (.bin .ile (.un .len (.un (.fld 0) (.var 0))) (.un (.fld 1) (.var 1)))) (.bool true) (.bin .inb (.un .len (.un (.fld 0) (.var 0))) (.un (.fld 1) (.var 1)))) (.call [((.bin .or (.bin .ilt (.un (.fld 1) (.var 1)) (.int 0)) (.bin .ile (.un .len (.un (.fld 0) (.var 0))) (.un (.fld 1) (.var 1)))), false)] 1 90 [(.un (.fld 1) (.bin .idx (.un (.fld 0) (.var 0)) (.un (.fld 1) (.var 1)))), (.var 2)] (.ite (.bin .or (.bin .or (.bin .ilt (.un (.fld 1) (.var 1)) (.int 0)) (.bin .ile (.un .len (.un (.fld 0) (.var 0))) (.un (.fld 1) (.var 1)))) (.un .not (.var 3))) (.out 2 [(.int 0), (.bool false)]) (.chk (.bin .inb (.un .len (.un (.fld 0) (.var 0))) (.un (.fld 1) (.var 1))) (.out 2 [(.un (.fld 2) (.bin .idx (.un (.fld 0) (.var 0)) (.un (.fld 1) (.var 1)))), (.bool true)]))))) (.call [] 2 91 [(.var 1), (.var 2)] (.out 2 [(.var 3), (.var 4)]))))))
theorem d78 : decompF C ⟨[.struct 95, .struct 75], [.int .i64, .bool], [false, false]⟩ Tryd.f78 h78 = some il78 := by kernel_rfl
theorem e78 (R : Fns) (a0 a1 : D) : den C.G R il78 [a0, a1] =
    ((loopL (fun s1 =>
        if (decide ((D.asI (at_ s1 0)) < (((D.asL (at_ (D.asA a1) 3))).length : Int))) then
          if (decide (0 ≤ (D.asI (at_ s1 0)) ∧ (D.asI (at_ s1 0)) < (((D.asL (at_ (D.asA a1) 3))).length : Int))) then
          (R 78 [a0, (at_ (D.asL (at_ (D.asA a1) 3)) (Int.toNat (D.asI (at_ s1 0))))]).bind fun r2 =>
          if (!(D.asB (at_ r2 1))) then
            some (2, [(D.int 0), (D.bool false)])
          else
            if (D.asB (U2.ev (.fits 34359738368) (D.int (((D.asL (at_ s1 1))).length : Int)) (D.int ((((at_ r2 0) :: ([] : List D))).length : Int)))) then
            some (0, [(D.int (IntKind.wrap .i64 ((D.asI (at_ s1 0)) + (1 : Int)))), (D.list ((D.asL (at_ s1 1)) ++ [(at_ r2 0)]))])
            else none
          else none
        else
          some (458758, [(at_ s1 1)])) [(D.int 0), (D.list [])]).bind fun o0 =>
    if o0.1 = 458758 then
      if ((!((D.asS (at_ (D.asA a1) 2)) == [])) && (!((D.asI (at_ (D.asA a1) 0)) == (1 : Int)))) then
        some (2, [(D.int 0), (D.bool false)])
      else
        if (((((D.asL (at_ o0.2 0))).length : Int) == (0 : Int)) && (!((D.asI (at_ (D.asA a1) 0)) == (22 : Int)))) then
          (R 89 [a0, a1]).bind fun r1 =>
          some (2, [(at_ r1 0), (at_ r1 1)])
        else
          if ((D.asI (at_ (D.asA a1) 0)) == (22 : Int)) then
            if (D.asB (if ((decide ((D.asI (at_ (D.asA a1) 1)) < (0 : Int))) || (decide ((((D.asL (at_ (D.asA a0) 0))).length : Int) ≤ (D.asI (at_ (D.asA a1) 1))))) then (D.bool true) else (D.bool (decide (0 ≤ (D.asI (at_ (D.asA a1) 1)) ∧ (D.asI (at_ (D.asA a1) 1)) < (((D.asL (at_ (D.asA a0) 0))).length : Int)))))) then
            callIf ((((decide ((D.asI (at_ (D.asA a1) 1)) < (0 : Int))) || (decide ((((D.asL (at_ (D.asA a0) 0))).length : Int) ≤ (D.asI (at_ (D.asA a1) 1))))) == false) && true) (R 90 [(at_ (D.asA (at_ (D.asL (at_ (D.asA a0) 0)) (Int.toNat (D.asI (at_ (D.asA a1) 1))))) 1), (at_ o0.2 0)]) fun r1 =>
            if (((decide ((D.asI (at_ (D.asA a1) 1)) < (0 : Int))) || (decide ((((D.asL (at_ (D.asA a0) 0))).length : Int) ≤ (D.asI (at_ (D.asA a1) 1))))) || (!(D.asB (at_ r1 0)))) then
              some (2, [(D.int 0), (D.bool false)])
            else
              if (decide (0 ≤ (D.asI (at_ (D.asA a1) 1)) ∧ (D.asI (at_ (D.asA a1) 1)) < (((D.asL (at_ (D.asA a0) 0))).length : Int))) then
              some (2, [(at_ (D.asA (at_ (D.asL (at_ (D.asA a0) 0)) (Int.toNat (D.asI (at_ (D.asA a1) 1))))) 2), (D.bool true)])
              else none
            else none
          else
            (R 91 [a1, (at_ o0.2 0)]).bind fun r1 =>
            some (2, [(at_ r1 0), (at_ r1 1)])
    else some o0 : Option Out) := by kernel_rfl
-- errata/value.Right
def h81 : List (Nat × List (Nat × Tm × Nat)) := []
def il81 : IL := (.ite (.bin .ieq (.un (.fld 0) (.var 0)) (.int 0)) (.call [] 1 62 [(.un (.fld 1) (.var 0))] (.out 2 [(.bin .deq (.var 0) (.var 1))])) (.ite (.bin .ieq (.un (.fld 0) (.var 0)) (.int 1)) (.call [] 1 64 [(.un (.fld 2) (.var 0))] (.out 2 [(.bin .and (.bin .deq (.var 0) (.var 1)) (.bin .ile (.un .slen (.un (.fld 2) (.var 0))) (.int 200)))])) (.call [] 1 63 [(.bool false)] (.call [((.bin .deq (.var 0) (.var 1)), false)] 1 63 [(.bool true)] (.out 2 [(.bin .or (.bin .deq (.var 0) (.var 1)) (.bin .deq (.var 0) (.var 2)))])))))
theorem d81 : decompF C ⟨[.struct 39], [.bool], [false]⟩ Tryd.f81 h81 = some il81 := by kernel_rfl
theorem e81 (R : Fns) (a0 : D) : den C.G R il81 [a0] =
    (if ((D.asI (at_ (D.asA a0) 0)) == (0 : Int)) then
      (R 62 [(at_ (D.asA a0) 1)]).bind fun r0 =>
      some (2, [(D.bool (D.beq a0 (at_ r0 0)))])
    else
      if ((D.asI (at_ (D.asA a0) 0)) == (1 : Int)) then
        (R 64 [(at_ (D.asA a0) 2)]).bind fun r0 =>
        some (2, [(D.bool ((D.beq a0 (at_ r0 0)) && (decide ((((D.asS (at_ (D.asA a0) 2))).length : Int) ≤ (200 : Int)))))])
      else
        (R 63 [(D.bool false)]).bind fun r0 =>
        callIf (((D.beq a0 (at_ r0 0)) == false) && true) (R 63 [(D.bool true)]) fun r1 =>
        some (2, [(D.bool ((D.beq a0 (at_ r0 0)) || (D.beq a0 (at_ r1 0))))]) : Option Out) := by kernel_rfl
-- errata/expr.operation
def h91 : List (Nat × List (Nat × Tm × Nat)) := [(32, [(1, ⟨[(3, (.bptr 24 [] 23)), (12, (.dat (.int .i64) (.un (.fld 0) (.var 0)))), (6, (.fnc 100 [] [(.bptr 24 [] 23)])), (25, (.dat (.bool) (.var 2))), (5, (.dat (.bool) (.bool false))), (4, (.dat (.int .i64) (.int 0)))], [(24, (.box 23 (.dat (.slice 3) (.var 1))))]⟩, 1)]), (42, [(1, ⟨[(12, (.dat (.int .i64) (.un (.fld 0) (.var 0)))), (3, (.bptr 24 [] 23)), (6, (.fnc 100 [] [(.bptr 24 [] 23)])), (33, (.dat (.bool) (.var 3))), (5, (.dat (.bool) (.bool false))), (4, (.dat (.int .i64) (.int 0)))], [(24, (.box 23 (.dat (.slice 3) (.var 1))))]⟩, 1)]), (48, [(1, ⟨[(3, (.bptr 24 [] 23)), (12, (.dat (.int .i64) (.un (.fld 0) (.var 0)))), (6, (.fnc 100 [] [(.bptr 24 [] 23)])), (43, (.dat (.bool) (.var 4))), (5, (.dat (.bool) (.bool false))), (4, (.dat (.int .i64) (.int 0)))], [(24, (.box 23 (.dat (.slice 3) (.var 1))))]⟩, 1)])]
def il91 : IL := (.ite (.un .not (.bin .ieq (.un (.fld 1) (.var 0)) (.int 0))) (.out 2 [(.int 0), (.bool false)]) (.ite (.bin .ieq (.un (.fld 0) (.var 0)) (.int 6)) (.call [] 1 100 [(.int 2), (.int 1), (.un .mkptr (.var 1))] (.out 2 [(.int 2), (.var 2)])) (.ite (.bin .ieq (.un (.fld 0) (.var 0)) (.int 7)) (.call [] 1 100 [(.int 0), (.int 1), (.un .mkptr (.var 1))] (.out 2 [(.int 0), (.var 2)])) (.ite (.bin .ieq (.un (.fld 0) (.var 0)) (.int 20)) (.call [] 1 100 [(.int 1), (.int 1), (.un .mkptr (.var 1))] (.out 2 [(.int 0), (.var 2)])) (.bindc (.ite (.bin .ieq (.un (.fld 0) (.var 0)) (.int 8)) (.out 2097156 [(.bin .ieq (.un (.fld 0) (.var 0)) (.int 8))]) (.ite (.bin .ieq (.un (.fld 0) (.var 0)) (.int 9)) (.out 2097156 [(.bin .ieq (.un (.fld 0) (.var 0)) (.int 9))]) (.ite (.bin .ieq (.un (.fld 0) (.var 0)) (.int 10)) (.out 2097156 [(.bin .ieq (.un (.fld 0) (.var 0)) (.int 10))]) (.ite (.bin .ieq (.un (.fld 0) (.var 0)) (.int 11)) (.out 2097156 [(.bin .ieq (.un (.fld 0) (.var 0)) (.int 11))]) (.out 2097156 [(.bin .ieq (.un (.fld 0) (.var 0)) (.int 12))]))))) 2097156 1 (.ite (.var 2) (.call [] 1 100 [(.int 0), (.int 2), (.un .mkptr (.var 1))] (.out 2 [(.int 0), (.var 3)])) (.bindc (.ite (.bin .ieq (.un (.fld 0) (.var 0)) (.int 13)) (.out 2752516 [(.bin .ieq (.un (.fld 0) (.var 0)) (.int 13))]) (.ite (.bin .ieq (.un (.fld 0) (.var 0)) (.int 14)) (.out 2752516 [(.bin .ieq (.un (.fld 0) (.var 0)) (.int 14))]) (.ite (.bin .ieq (.un (.fld 0) (.var 0)) (.int 15)) (.out 2752516 [(.bin .ieq (.un (.fld 0) (.var 0)) (.int 15))]) (.out 2752516 [(.bin .ieq (.un (.fld 0) (.var 0)) (.int 16))])))) 2752516 1 (.ite (.var 3) (.chk (.bin .inb (.un .len (.var 1)) (.int 0)) (.call [] 1 100 [(.bin .idx (.var 1) (.int 0)), (.int 2), (.un .mkptr (.var 1))] (.out 2 [(.int 2), (.var 4)]))) (.bindc (.ite (.bin .ieq (.un (.fld 0) (.var 0)) (.int 17)) (.out 3145732 [(.bin .ieq (.un (.fld 0) (.var 0)) (.int 17))]) (.out 3145732 [(.bin .ieq (.un (.fld 0) (.var 0)) (.int 18))])) 3145732 1 (.ite (.var 4) (.call [] 1 100 [(.int 2), (.int 2), (.un .mkptr (.var 1))] (.out 2 [(.int 2), (.var 5)])) (.ite (.bin .ieq (.un (.fld 0) (.var 0)) (.int 19)) (.call [] 1 100 [(.int 1), (.int 2), (.un .mkptr (.var 1))] (.out 2 [(.int 1), (.var 5)])) (.ite (.bin .ieq (.un (.fld 0) (.var 0)) (.int 21)) (.chk (.bin .inb (.un .len (.var 1)) (.bin (.sub .i64) (.un .len (.var 1)) (.int 1))) (.chk (.tri .ite (.bin .ieq (.un .len (.var 1)) (.int 3)) (.bin .inb (.un .len (.var 1)) (.int 0)) (.bool true)) (.chk (.tri .ite (.bin .and (.bin .ieq (.un .len (.var 1)) (.int 3)) (.bin .ieq (.bin .idx (.var 1) (.int 0)) (.int 2))) (.bin .inb (.un .len (.var 1)) (.int 1)) (.bool true)) (.chk (.tri .ite (.bin .and (.bin .ieq (.un .len (.var 1)) (.int 3)) (.bin .ieq (.bin .idx (.var 1) (.int 0)) (.int 2))) (.bin .inb (.un .len (.var 1)) (.int 2)) (.bool true)) (.out 2 [(.bin .idx (.var 1) (.bin (.sub .i64) (.un .len (.var 1)) (.int 1))), (.bin .and (.bin .and (.bin .ieq (.un .len (.var 1)) (.int 3)) (.bin .ieq (.bin .idx (.var 1) (.int 0)) (.int 2))) (.bin .ieq (.bin .idx (.var 1) (.int 1)) (.bin .idx (.var 1) (.int 2))))]))))) (.out 2 [(.int 0), (.bool false)])))))))))))))
theorem d91 : decompF C ⟨[.struct 75, .slice 3], [.int .i64, .bool], [false, false]⟩ Tryd.f91 h91 = some il91 := by kernel_rfl
theorem e91 (R : Fns) (a0 a1 : D) : den C.G R il91 [a0, a1] =
    (if (!((D.asI (at_ (D.asA a0) 1)) == (0 : Int))) then
      some (2, [(D.int 0), (D.bool false)])
    else
      if ((D.asI (at_ (D.asA a0) 0)) == (6 : Int)) then
        (R 100 [(D.int 2), (D.int 1), (D.ptr a1)]).bind fun r0 =>
        some (2, [(D.int 2), (at_ r0 0)])
      else
        if ((D.asI (at_ (D.asA a0) 0)) == (7 : Int)) then
          (R 100 [(D.int 0), (D.int 1), (D.ptr a1)]).bind fun r0 =>
          some (2, [(D.int 0), (at_ r0 0)])
        else
          if ((D.asI (at_ (D.asA a0) 0)) == (20 : Int)) then
            (R 100 [(D.int 1), (D.int 1), (D.ptr a1)]).bind fun r0 =>
            some (2, [(D.int 0), (at_ r0 0)])
          else
            (if ((D.asI (at_ (D.asA a0) 0)) == (8 : Int)) then
                some (2097156, [(D.bool ((D.asI (at_ (D.asA a0) 0)) == (8 : Int)))])
              else
                if ((D.asI (at_ (D.asA a0) 0)) == (9 : Int)) then
                  some (2097156, [(D.bool ((D.asI (at_ (D.asA a0) 0)) == (9 : Int)))])
                else
                  if ((D.asI (at_ (D.asA a0) 0)) == (10 : Int)) then
                    some (2097156, [(D.bool ((D.asI (at_ (D.asA a0) 0)) == (10 : Int)))])
                  else
                    if ((D.asI (at_ (D.asA a0) 0)) == (11 : Int)) then
                      some (2097156, [(D.bool ((D.asI (at_ (D.asA a0) 0)) == (11 : Int)))])
                    else
                      some (2097156, [(D.bool ((D.asI (at_ (D.asA a0) 0)) == (12 : Int)))])).bind fun o0 =>
            if o0.1 = 2097156 then
              if (D.asB (at_ o0.2 0)) then
                (R 100 [(D.int 0), (D.int 2), (D.ptr a1)]).bind fun r1 =>
                some (2, [(D.int 0), (at_ r1 0)])
              else
                (if ((D.asI (at_ (D.asA a0) 0)) == (13 : Int)) then
                    some (2752516, [(D.bool ((D.asI (at_ (D.asA a0) 0)) == (13 : Int)))])
                  else
                    if ((D.asI (at_ (D.asA a0) 0)) == (14 : Int)) then
                      some (2752516, [(D.bool ((D.asI (at_ (D.asA a0) 0)) == (14 : Int)))])
                    else
                      if ((D.asI (at_ (D.asA a0) 0)) == (15 : Int)) then
                        some (2752516, [(D.bool ((D.asI (at_ (D.asA a0) 0)) == (15 : Int)))])
                      else
                        some (2752516, [(D.bool ((D.asI (at_ (D.asA a0) 0)) == (16 : Int)))])).bind fun o1 =>
                if o1.1 = 2752516 then
                  if (D.asB (at_ o1.2 0)) then
                    if (decide (0 ≤ (0 : Int) ∧ (0 : Int) < (((D.asL a1)).length : Int))) then
                    (R 100 [(at_ (D.asL a1) (Int.toNat (0 : Int))), (D.int 2), (D.ptr a1)]).bind fun r2 =>
                    some (2, [(D.int 2), (at_ r2 0)])
                    else none
                  else
                    (if ((D.asI (at_ (D.asA a0) 0)) == (17 : Int)) then
                        some (3145732, [(D.bool ((D.asI (at_ (D.asA a0) 0)) == (17 : Int)))])
                      else
                        some (3145732, [(D.bool ((D.asI (at_ (D.asA a0) 0)) == (18 : Int)))])).bind fun o2 =>
                    if o2.1 = 3145732 then
                      if (D.asB (at_ o2.2 0)) then
                        (R 100 [(D.int 2), (D.int 2), (D.ptr a1)]).bind fun r3 =>
                        some (2, [(D.int 2), (at_ r3 0)])
                      else
                        if ((D.asI (at_ (D.asA a0) 0)) == (19 : Int)) then
                          (R 100 [(D.int 1), (D.int 2), (D.ptr a1)]).bind fun r3 =>
                          some (2, [(D.int 1), (at_ r3 0)])
                        else
                          if ((D.asI (at_ (D.asA a0) 0)) == (21 : Int)) then
                            if (decide (0 ≤ (IntKind.wrap .i64 ((((D.asL a1)).length : Int) - (1 : Int))) ∧ (IntKind.wrap .i64 ((((D.asL a1)).length : Int) - (1 : Int))) < (((D.asL a1)).length : Int))) then
                            if (D.asB (if ((((D.asL a1)).length : Int) == (3 : Int)) then (D.bool (decide (0 ≤ (0 : Int) ∧ (0 : Int) < (((D.asL a1)).length : Int)))) else (D.bool true))) then
                            if (D.asB (if (((((D.asL a1)).length : Int) == (3 : Int)) && ((D.asI (at_ (D.asL a1) (Int.toNat (0 : Int)))) == (2 : Int))) then (D.bool (decide (0 ≤ (1 : Int) ∧ (1 : Int) < (((D.asL a1)).length : Int)))) else (D.bool true))) then
                            if (D.asB (if (((((D.asL a1)).length : Int) == (3 : Int)) && ((D.asI (at_ (D.asL a1) (Int.toNat (0 : Int)))) == (2 : Int))) then (D.bool (decide (0 ≤ (2 : Int) ∧ (2 : Int) < (((D.asL a1)).length : Int)))) else (D.bool true))) then
                            some (2, [(at_ (D.asL a1) (Int.toNat (IntKind.wrap .i64 ((((D.asL a1)).length : Int) - (1 : Int))))), (D.bool ((((((D.asL a1)).length : Int) == (3 : Int)) && ((D.asI (at_ (D.asL a1) (Int.toNat (0 : Int)))) == (2 : Int))) && ((D.asI (at_ (D.asL a1) (Int.toNat (1 : Int)))) == (D.asI (at_ (D.asL a1) (Int.toNat (2 : Int)))))))])
                            else none
                            else none
                            else none
                            else none
                          else
                            some (2, [(D.int 0), (D.bool false)])
                    else some o2
                else some o1
            else some o0 : Option Out) := by kernel_rfl
-- cmp.isNaN[int]
def h93 : List (Nat × List (Nat × Tm × Nat)) := []
def il93 : IL := (.out 2 [(.un .not (.bin .ieq (.var 0) (.var 0)))])
theorem d93 : decompF C ⟨[.int .i64], [.bool], [false]⟩ Tryd.f93 h93 = some il93 := by kernel_rfl
theorem e93 (R : Fns) (a0 : D) : den C.G R il93 [a0] =
    (some (2, [(D.bool (!((D.asI a0) == (D.asI a0))))]) : Option Out) := by kernel_rfl
-- errata/expr.operation$1$1
def h101 : List (Nat × List (Nat × Tm × Nat)) := []
def il101 : IL := (.chk (.un .isptr (.var 1)) (.out 2 [(.un .not (.bin .ieq (.var 0) (.un .deref (.var 1))))]))
theorem d101 : decompF C ⟨[.int .i64, .ptr 3], [.bool], [false]⟩ Tryd.f101 h101 = some il101 := by kernel_rfl
theorem e101 (R : Fns) (a0 a1 : D) : den C.G R il101 [a0, a1] =
    (if (D.isP a1) then
    some (2, [(D.bool (!((D.asI a0) == (D.asI (D.asP a1)))))])
    else none : Option Out) := by kernel_rfl
end Go.Proofs.YtlbckmllpciglaaDoor
