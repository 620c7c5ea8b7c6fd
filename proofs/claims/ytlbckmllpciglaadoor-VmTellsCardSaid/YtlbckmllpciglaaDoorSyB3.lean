/- Some functions' texts, and what they mean. Printed by a program of this claim's author. -/
import Derived.Test.YtlbckmllpciglaaDoorSyA
set_option linter.unusedVariables false
set_option linter.unusedSimpArgs false
set_option linter.all false
namespace Go.Proofs.YtlbckmllpciglaaDoor
open Go Sy
set_option maxRecDepth 100000
-- errata/errataref27.Fits
def h8 : List (Nat × List (Nat × Tm × Nat)) := [(5, [(0, ⟨[(0, (.dat (.slice 3) (.var 0))), (1, (.dat (.slice 37) (.var 1))), (5, (.dat (.int .i64) (.var 2))), (4, (.dat (.bool) (.bool false)))], []⟩, 1), (3, ⟨[(4, (.dat (.bool) (.bool false)))], []⟩, 0)]), (15, [(0, ⟨[(6, (.dat (.int .i64) (.var 4))), (30, (.dat (.bool) (.bin .or (.un .not (.bin .ieq (.un .len (.un (.fld 1) (.bin .idx (.var 1) (.var 2)))) (.un .len (.var 0)))) (.un .not (.var 3))))), (22, (.dat (.bool) (.un .not (.bin .ieq (.un .len (.un (.fld 1) (.bin .idx (.var 1) (.var 2)))) (.un .len (.var 0)))))), (21, (.dat (.bool) (.un .not (.bin .ieq (.un .len (.un (.fld 1) (.bin .idx (.var 1) (.var 2)))) (.un .len (.var 0)))))), (20, (.dat (.int .i64) (.un .len (.var 0)))), (18, (.dat (.int .i64) (.un .len (.un (.fld 1) (.bin .idx (.var 1) (.var 2)))))), (19, (.dat (.slice 3) (.var 0))), (0, (.dat (.slice 3) (.var 0))), (17, (.dat (.slice 39) (.un (.fld 1) (.bin .idx (.var 1) (.var 2))))), (16, (.dat (.ptr 33) (.un .mkptr (.un (.fld 1) (.bin .idx (.var 1) (.var 2)))))), (15, (.dat (.ptr 37) (.un .mkptr (.bin .idx (.var 1) (.var 2))))), (14, (.dat (.int .i64) (.var 2))), (13, (.dat (.slice 37) (.var 1))), (10, (.dat (.bool) (.bin .ilt (.var 2) (.un .len (.var 1))))), (9, (.dat (.int .i64) (.un .len (.var 1)))), (7, (.dat (.int .i64) (.var 2))), (8, (.dat (.slice 37) (.var 1))), (1, (.dat (.slice 37) (.var 1))), (5, (.dat (.int .i64) (.var 2))), (4, (.dat (.bool) (.bool false)))], []⟩, 1), (5, ⟨[(34, (.dat (.bool) (.var 4))), (33, (.dat (.int .i64) (.un .len (.var 0)))), (31, (.dat (.int .i64) (.var 5))), (32, (.dat (.slice 3) (.var 0))), (6, (.dat (.int .i64) (.var 6))), (30, (.dat (.bool) (.bin .or (.un .not (.bin .ieq (.un .len (.un (.fld 1) (.bin .idx (.var 1) (.var 2)))) (.un .len (.var 0)))) (.un .not (.var 3))))), (22, (.dat (.bool) (.un .not (.bin .ieq (.un .len (.un (.fld 1) (.bin .idx (.var 1) (.var 2)))) (.un .len (.var 0)))))), (21, (.dat (.bool) (.un .not (.bin .ieq (.un .len (.un (.fld 1) (.bin .idx (.var 1) (.var 2)))) (.un .len (.var 0)))))), (20, (.dat (.int .i64) (.un .len (.var 0)))), (18, (.dat (.int .i64) (.un .len (.un (.fld 1) (.bin .idx (.var 1) (.var 2)))))), (19, (.dat (.slice 3) (.var 0))), (0, (.dat (.slice 3) (.var 0))), (17, (.dat (.slice 39) (.un (.fld 1) (.bin .idx (.var 1) (.var 2))))), (16, (.dat (.ptr 33) (.un .mkptr (.un (.fld 1) (.bin .idx (.var 1) (.var 2)))))), (15, (.dat (.ptr 37) (.un .mkptr (.bin .idx (.var 1) (.var 2))))), (14, (.dat (.int .i64) (.var 2))), (13, (.dat (.slice 37) (.var 1))), (10, (.dat (.bool) (.bin .ilt (.var 2) (.un .len (.var 1))))), (9, (.dat (.int .i64) (.un .len (.var 1)))), (7, (.dat (.int .i64) (.var 2))), (8, (.dat (.slice 37) (.var 1))), (1, (.dat (.slice 37) (.var 1))), (5, (.dat (.int .i64) (.var 2))), (4, (.dat (.bool) (.bool false)))], []⟩, 3)])]
def il8 : IL := (.bindc (.loop [(.int 0)] (.ite (.bin .ilt (.var 2) (.un .len (.var 1))) (.chk (.bin .inb (.un .len (.var 1)) (.var 2)) (.chk (.tri .ite (.un .not (.bin .ieq (.un .len (.un (.fld 1) (.bin .idx (.var 1) (.var 2)))) (.un .len (.var 0)))) (.bool true) (.bin .inb (.un .len (.var 1)) (.var 2))) (.call [((.un .not (.bin .ieq (.un .len (.un (.fld 1) (.bin .idx (.var 1) (.var 2)))) (.un .len (.var 0)))), false)] 1 23 [(.un (.fld 1) (.bin .idx (.var 1) (.var 2)))] (.ite (.bin .or (.un .not (.bin .ieq (.un .len (.un (.fld 1) (.bin .idx (.var 1) (.var 2)))) (.un .len (.var 0)))) (.un .not (.var 3))) (.out 2 [(.bool false)]) (.bindc (.loop [(.int 0)] (.ite (.bin .ilt (.var 4) (.un .len (.var 0))) (.chk (.bin .inb (.un .len (.var 1)) (.var 2)) (.chk (.bin .inb (.un .len (.un (.fld 1) (.bin .idx (.var 1) (.var 2)))) (.var 4)) (.chk (.bin .inb (.un .len (.var 0)) (.var 4)) (.ite (.un .not (.bin .ieq (.un (.fld 0) (.bin .idx (.un (.fld 1) (.bin .idx (.var 1) (.var 2))) (.var 4))) (.bin .idx (.var 0) (.var 4)))) (.out 2 [(.bool false)]) (.out 0 [(.bin (.add .i64) (.var 4) (.int 1))]))))) (.out 983048 [(.bin .ilt (.var 4) (.un .len (.var 0))), (.var 4), (.var 4)]))) 983048 3 (.out 0 [(.bin (.add .i64) (.var 2) (.int 1))])))))) (.out 327686 []))) 327686 0 (.out 2 [(.bool true)]))
theorem d8 : decompF C ⟨[.slice 3, .slice 37], [.bool], [false]⟩ Tryd.f8 h8 = some il8 := by kernel_rfl
theorem e8 (R : Fns) (a0 a1 : D) : den C.G R il8 [a0, a1] =
    ((loopL (fun s1 =>
        if (decide ((D.asI (at_ s1 0)) < (((D.asL a1)).length : Int))) then
          if (decide (0 ≤ (D.asI (at_ s1 0)) ∧ (D.asI (at_ s1 0)) < (((D.asL a1)).length : Int))) then
          if (D.asB (if (!((((D.asL (at_ (D.asA (at_ (D.asL a1) (Int.toNat (D.asI (at_ s1 0))))) 1))).length : Int) == (((D.asL a0)).length : Int))) then (D.bool true) else (D.bool (decide (0 ≤ (D.asI (at_ s1 0)) ∧ (D.asI (at_ s1 0)) < (((D.asL a1)).length : Int)))))) then
          callIf (((!((((D.asL (at_ (D.asA (at_ (D.asL a1) (Int.toNat (D.asI (at_ s1 0))))) 1))).length : Int) == (((D.asL a0)).length : Int))) == false) && true) (R 23 [(at_ (D.asA (at_ (D.asL a1) (Int.toNat (D.asI (at_ s1 0))))) 1)]) fun r2 =>
          if ((!((((D.asL (at_ (D.asA (at_ (D.asL a1) (Int.toNat (D.asI (at_ s1 0))))) 1))).length : Int) == (((D.asL a0)).length : Int))) || (!(D.asB (at_ r2 0)))) then
            some (2, [(D.bool false)])
          else
            (loopL (fun s4 =>
                if (decide ((D.asI (at_ s4 0)) < (((D.asL a0)).length : Int))) then
                  if (decide (0 ≤ (D.asI (at_ s1 0)) ∧ (D.asI (at_ s1 0)) < (((D.asL a1)).length : Int))) then
                  if (decide (0 ≤ (D.asI (at_ s4 0)) ∧ (D.asI (at_ s4 0)) < (((D.asL (at_ (D.asA (at_ (D.asL a1) (Int.toNat (D.asI (at_ s1 0))))) 1))).length : Int))) then
                  if (decide (0 ≤ (D.asI (at_ s4 0)) ∧ (D.asI (at_ s4 0)) < (((D.asL a0)).length : Int))) then
                  if (!((D.asI (at_ (D.asA (at_ (D.asL (at_ (D.asA (at_ (D.asL a1) (Int.toNat (D.asI (at_ s1 0))))) 1)) (Int.toNat (D.asI (at_ s4 0))))) 0)) == (D.asI (at_ (D.asL a0) (Int.toNat (D.asI (at_ s4 0))))))) then
                    some (2, [(D.bool false)])
                  else
                    some (0, [(D.int (IntKind.wrap .i64 ((D.asI (at_ s4 0)) + (1 : Int))))])
                  else none
                  else none
                  else none
                else
                  some (983048, [(D.bool (decide ((D.asI (at_ s4 0)) < (((D.asL a0)).length : Int)))), (at_ s4 0), (at_ s4 0)])) [(D.int 0)]).bind fun o3 =>
            if o3.1 = 983048 then
              some (0, [(D.int (IntKind.wrap .i64 ((D.asI (at_ s1 0)) + (1 : Int))))])
            else some o3
          else none
          else none
        else
          some (327686, [])) [(D.int 0)]).bind fun o0 =>
    if o0.1 = 327686 then
      some (2, [(D.bool true)])
    else some o0 : Option Out) := by kernel_rfl
-- errata/errataref03.RightRow
def h23 : List (Nat × List (Nat × Tm × Nat)) := []
def il23 : IL := (.call [((.bin .ile (.un .len (.var 0)) (.int 12)), true)] 1 36 [(.var 0)] (.out 2 [(.bin .and (.bin .ile (.un .len (.var 0)) (.int 12)) (.var 1))]))
theorem d23 : decompF C ⟨[.slice 39], [.bool], [false]⟩ Tryd.f23 h23 = some il23 := by kernel_rfl
theorem e23 (R : Fns) (a0 : D) : den C.G R il23 [a0] =
    (callIf (((decide ((((D.asL a0)).length : Int) ≤ (12 : Int))) == true) && true) (R 36 [a0]) fun r0 =>
    some (2, [(D.bool ((decide ((((D.asL a0)).length : Int) ≤ (12 : Int))) && (D.asB (at_ r0 0))))]) : Option Out) := by kernel_rfl
-- errata/vm.run
def h28 : List (Nat × List (Nat × Tm × Nat)) := [(9, [(0, ⟨[(6, (.tab 82 [(.fnc 43 [(.bptr 120 [] 81)] []), (.fnc 44 [(.bptr 120 [] 81)] []), (.fnc 45 [(.bptr 120 [] 81)] []), (.fnc 46 [(.bptr 120 [] 81)] [])])), (26, (.dat (.slice 52) (.un (.fld 0) (.var 0)))), (27, (.dat (.int .i64) (.un .len (.un (.fld 0) (.var 0))))), (28, (.dat (.int .i64) (.var 2))), (2, (.bptr 16 [] 25)), (5, (.bptr 120 [] 81)), (4, (.nils 39))], [(120, (.box 81 (.agg 81 [(.dat (.slice 37) (.var 1)), (.sli 104 0 33)]))), (104, (.arr 33 (.var 3) 0)), (16, (.box 25 (.dat (.struct 25) (.var 0))))]⟩, 2), (3, ⟨[(2, (.bptr 16 [] 25)), (5, (.bptr 120 [] 81)), (4, (.nils 39))], [(16, (.box 25 (.dat (.struct 25) (.var 0)))), (120, (.box 81 (.agg 81 [(.dat (.slice 37) (.var 1)), (.sli 104 0 33)]))), (104, (.arr 33 (.var 2) 0))]⟩, 1)])]
def il28 : IL := (.chk (.bin (.ble 34359738368) (.un .len (.un (.fld 1) (.var 0))) (.un .len (.un (.fld 1) (.var 0)))) (.bindc (.loop [(.int 0), (.bin .rep (.un .len (.un (.fld 1) (.var 0))) .lnil)] (.ite (.bin .ilt (.var 2) (.un .len (.un (.fld 0) (.var 0)))) (.chk (.bin .inb (.un .len (.un (.fld 0) (.var 0))) (.var 2)) (.call [] 1 39 [(.bin .idx (.un (.fld 0) (.var 0)) (.var 2))] (.chk (.bin .inb (.int 4) (.un .len (.var 4))) (.callv [] 1 (.bin .idx (.bin .cons (.fn 43 (.bin .cons (.un .mkptr (.un .mkagg (.bin .cons (.var 1) (.bin .cons (.var 3) .lnil)))) .lnil) .lnil) (.bin .cons (.fn 44 (.bin .cons (.un .mkptr (.un .mkagg (.bin .cons (.var 1) (.bin .cons (.var 3) .lnil)))) .lnil) .lnil) (.bin .cons (.fn 45 (.bin .cons (.un .mkptr (.un .mkagg (.bin .cons (.var 1) (.bin .cons (.var 3) .lnil)))) .lnil) .lnil) (.bin .cons (.fn 46 (.bin .cons (.un .mkptr (.un .mkagg (.bin .cons (.var 1) (.bin .cons (.var 3) .lnil)))) .lnil) .lnil) .lnil)))) (.un .len (.var 4))) [(.bin .idx (.un (.fld 0) (.var 0)) (.var 2))] (.chk (.bin .inb (.un .len (.var 3)) (.un (.fld 1) (.bin .idx (.un (.fld 0) (.var 0)) (.var 2)))) (.out 0 [(.bin (.add .i64) (.var 2) (.int 1)), (.tri .set (.var 3) (.un (.fld 1) (.bin .idx (.un (.fld 0) (.var 0)) (.var 2))) (.var 5))])))))) (.out 589830 [(.var 3)]))) 589830 1 (.chk (.bin .inb (.un .len (.var 2)) (.un (.fld 2) (.var 0))) (.call [] 1 32 [(.bin .idx (.var 2) (.un (.fld 2) (.var 0)))] (.out 2 [(.var 3)])))))
theorem d28 : decompF C ⟨[.struct 25, .slice 37], [.slice 39], [true]⟩ Tryd.f28 h28 = some il28 := by kernel_rfl
theorem e28 (R : Fns) (a0 a1 : D) : den C.G R il28 [a0, a1] =
    (if (D.asB (U2.ev (.ble 34359738368) (D.int (((D.asL (at_ (D.asA a0) 1))).length : Int)) (D.int (((D.asL (at_ (D.asA a0) 1))).length : Int)))) then
    (loopL (fun s1 =>
        if (decide ((D.asI (at_ s1 0)) < (((D.asL (at_ (D.asA a0) 0))).length : Int))) then
          if (decide (0 ≤ (D.asI (at_ s1 0)) ∧ (D.asI (at_ s1 0)) < (((D.asL (at_ (D.asA a0) 0))).length : Int))) then
          (R 39 [(at_ (D.asL (at_ (D.asA a0) 0)) (Int.toNat (D.asI (at_ s1 0))))]).bind fun r2 =>
          if (decide (0 ≤ (((D.asL (at_ r2 0))).length : Int) ∧ (((D.asL (at_ r2 0))).length : Int) < (4 : Int))) then
          (callD R (at_ ((D.fn 43 ((D.ptr (D.agg (a1 :: ((at_ s1 1) :: ([] : List D))))) :: ([] : List D)) ([] : List D)) :: ((D.fn 44 ((D.ptr (D.agg (a1 :: ((at_ s1 1) :: ([] : List D))))) :: ([] : List D)) ([] : List D)) :: ((D.fn 45 ((D.ptr (D.agg (a1 :: ((at_ s1 1) :: ([] : List D))))) :: ([] : List D)) ([] : List D)) :: ((D.fn 46 ((D.ptr (D.agg (a1 :: ((at_ s1 1) :: ([] : List D))))) :: ([] : List D)) ([] : List D)) :: ([] : List D))))) (Int.toNat (((D.asL (at_ r2 0))).length : Int))) [(at_ (D.asL (at_ (D.asA a0) 0)) (Int.toNat (D.asI (at_ s1 0))))]).bind fun r3 =>
          if (decide (0 ≤ (D.asI (at_ (D.asA (at_ (D.asL (at_ (D.asA a0) 0)) (Int.toNat (D.asI (at_ s1 0))))) 1)) ∧ (D.asI (at_ (D.asA (at_ (D.asL (at_ (D.asA a0) 0)) (Int.toNat (D.asI (at_ s1 0))))) 1)) < (((D.asL (at_ s1 1))).length : Int))) then
          some (0, [(D.int (IntKind.wrap .i64 ((D.asI (at_ s1 0)) + (1 : Int)))), (D.list (((D.asL (at_ s1 1))).set (Int.toNat (D.asI (at_ (D.asA (at_ (D.asL (at_ (D.asA a0) 0)) (Int.toNat (D.asI (at_ s1 0))))) 1))) (at_ r3 0)))])
          else none
          else none
          else none
        else
          some (589830, [(at_ s1 1)])) [(D.int 0), (D.list (List.replicate (Int.toNat (((D.asL (at_ (D.asA a0) 1))).length : Int)) (D.list [])))]).bind fun o0 =>
    if o0.1 = 589830 then
      if (decide (0 ≤ (D.asI (at_ (D.asA a0) 2)) ∧ (D.asI (at_ (D.asA a0) 2)) < (((D.asL (at_ o0.2 0))).length : Int))) then
      (R 32 [(at_ (D.asL (at_ o0.2 0)) (Int.toNat (D.asI (at_ (D.asA a0) 2))))]).bind fun r1 =>
      some (2, [(at_ r1 0)])
      else none
    else some o0
    else none : Option Out) := by kernel_rfl
-- errata/errataref25.Value
def h31 : List (Nat × List (Nat × Tm × Nat)) := []
def il31 : IL := (.call [] 1 51 [(.var 0), (.var 1), (.var 2)] (.call [] 1 52 [(.var 0), (.un .len (.un (.fld 0) (.var 0))), (.un (.fld 2) (.var 0))] (.ite (.bin .ilt (.var 4) (.int 0)) (.out 2 [(.un .mkagg (.bin .cons (.int 0) (.bin .cons (.int 0) (.bin .cons (.str []) .lnil))))]) (.chk (.bin .inb (.un .len (.var 3)) (.var 4)) (.out 2 [(.bin .idx (.var 3) (.var 4))])))))
theorem d31 : decompF C ⟨[.struct 25, .int .i64, .slice 39], [.struct 39], [false]⟩ Tryd.f31 h31 = some il31 := by kernel_rfl
theorem e31 (R : Fns) (a0 a1 a2 : D) : den C.G R il31 [a0, a1, a2] =
    ((R 51 [a0, a1, a2]).bind fun r0 =>
    (R 52 [a0, (D.int (((D.asL (at_ (D.asA a0) 0))).length : Int)), (at_ (D.asA a0) 2)]).bind fun r1 =>
    if (decide ((D.asI (at_ r1 0)) < (0 : Int))) then
      some (2, [(D.agg ((D.int 0) :: ((D.int 0) :: ((D.str []) :: ([] : List D)))))])
    else
      if (decide (0 ≤ (D.asI (at_ r1 0)) ∧ (D.asI (at_ r1 0)) < (((D.asL (at_ r0 0))).length : Int))) then
      some (2, [(at_ (D.asL (at_ r0 0)) (Int.toNat (D.asI (at_ r1 0))))])
      else none : Option Out) := by kernel_rfl
-- errata/code.Needed
def h34 : List (Nat × List (Nat × Tm × Nat)) := [(11, [(0, ⟨[(3, (.sli 88 0 23)), (6, (.dat (.int .i64) (.var 3))), (5, (.sli 136 0 4)), (2, (.nils 4))], [(88, (.arr 23 (.var 1) 0)), (136, (.arr 4 (.var 4) 0))]⟩, 2), (3, ⟨[(5, (.sli 136 0 4)), (2, (.nils 4))], [(136, (.arr 4 (.var 3) 0))]⟩, 1)]), (12, [(1, ⟨[(3, (.sli 88 0 23)), (33, (.dat (.bool) (.un .not (.bin .idx (.var 4) (.var 3))))), (32, (.dat (.bool) (.bin .idx (.var 4) (.var 3)))), (30, (.dat (.int .i64) (.var 3))), (29, (.sli 136 0 4)), (26, (.dat (.bool) (.bin .ile (.int 0) (.var 3)))), (25, (.dat (.int .i64) (.var 3))), (6, (.dat (.int .i64) (.var 3))), (5, (.sli 136 0 4)), (2, (.nils 4))], [(88, (.arr 23 (.var 1) 0)), (136, (.arr 4 (.var 5) 0))]⟩, 1)]), (19, [(0, ⟨[(38, (.dat (.int .i64) (.un .len (.bin .idx (.var 1) (.var 3))))), (39, (.dat (.int .i64) (.var 5))), (37, (.dat (.slice 3) (.bin .idx (.var 1) (.var 3)))), (35, (.dat (.int .i64) (.var 3))), (34, (.sli 88 0 23)), (3, (.sli 88 0 23)), (33, (.dat (.bool) (.un .not (.bin .idx (.var 4) (.var 3))))), (32, (.dat (.bool) (.bin .idx (.var 4) (.var 3)))), (30, (.dat (.int .i64) (.var 3))), (29, (.sli 136 0 4)), (26, (.dat (.bool) (.bin .ile (.int 0) (.var 3)))), (25, (.dat (.int .i64) (.var 3))), (6, (.dat (.int .i64) (.var 3))), (5, (.sli 136 0 4)), (2, (.nils 4))], [(88, (.arr 23 (.var 1) 0)), (136, (.arr 4 (.var 6) 0))]⟩, 2), (5, ⟨[(40, (.dat (.bool) (.var 5))), (38, (.dat (.int .i64) (.un .len (.bin .idx (.var 1) (.var 3))))), (39, (.dat (.int .i64) (.var 6))), (37, (.dat (.slice 3) (.bin .idx (.var 1) (.var 3)))), (35, (.dat (.int .i64) (.var 3))), (34, (.sli 88 0 23)), (3, (.sli 88 0 23)), (33, (.dat (.bool) (.un .not (.bin .idx (.var 4) (.var 3))))), (32, (.dat (.bool) (.bin .idx (.var 4) (.var 3)))), (30, (.dat (.int .i64) (.var 3))), (29, (.sli 136 0 4)), (26, (.dat (.bool) (.bin .ile (.int 0) (.var 3)))), (25, (.dat (.int .i64) (.var 3))), (6, (.dat (.int .i64) (.var 3))), (5, (.sli 136 0 4)), (2, (.nils 4))], [(88, (.arr 23 (.var 1) 0)), (136, (.arr 4 (.var 7) 0))]⟩, 3)])]
def il34 : IL := (.call [] 2 35 [(.var 0)] (.chk (.bin (.ble 34359738368) (.un .len (.un (.fld 0) (.var 0))) (.un .len (.un (.fld 0) (.var 0)))) (.chk (.bin .inb (.un .len (.bin .rep (.un .len (.un (.fld 0) (.var 0))) (.bool false))) (.var 2)) (.bindc (.loop [(.bin (.sub .i64) (.un .len (.un (.fld 0) (.var 0))) (.int 1)), (.tri .set (.bin .rep (.un .len (.un (.fld 0) (.var 0))) (.bool false)) (.var 2) (.bool true))] (.ite (.bin .ile (.int 0) (.var 3)) (.bindc (.chk (.bin .inb (.un .len (.var 4)) (.var 3)) (.ite (.un .not (.bin .idx (.var 4) (.var 3))) (.out 786436 [(.var 4)]) (.chk (.bin .inb (.un .len (.var 1)) (.var 3)) (.bindc (.loop [(.int 0), (.var 4)] (.ite (.bin .ilt (.var 5) (.un .len (.bin .idx (.var 1) (.var 3)))) (.chk (.bin .inb (.un .len (.bin .idx (.var 1) (.var 3))) (.var 5)) (.chk (.bin .inb (.un .len (.var 6)) (.bin .idx (.bin .idx (.var 1) (.var 3)) (.var 5))) (.out 0 [(.bin (.add .i64) (.var 5) (.int 1)), (.tri .set (.var 6) (.bin .idx (.bin .idx (.var 1) (.var 3)) (.var 5)) (.bool true))]))) (.out 1245192 [(.bin .ilt (.var 5) (.un .len (.bin .idx (.var 1) (.var 3)))), (.var 5), (.var 6)]))) 1245192 3 (.out 786436 [(.var 7)]))))) 786436 1 (.out 0 [(.bin (.sub .i64) (.var 3) (.int 1)), (.var 5)])) (.out 720902 [(.var 4)]))) 720902 1 (.out 2 [(.var 3)])))))
theorem d34 : decompF C ⟨[.struct 25], [.slice 4], [true]⟩ Tryd.f34 h34 = some il34 := by kernel_rfl
theorem e34 (R : Fns) (a0 : D) : den C.G R il34 [a0] =
    ((R 35 [a0]).bind fun r0 =>
    if (D.asB (U2.ev (.ble 34359738368) (D.int (((D.asL (at_ (D.asA a0) 0))).length : Int)) (D.int (((D.asL (at_ (D.asA a0) 0))).length : Int)))) then
    if (decide (0 ≤ (D.asI (at_ r0 1)) ∧ (D.asI (at_ r0 1)) < (((List.replicate (Int.toNat (((D.asL (at_ (D.asA a0) 0))).length : Int)) (D.bool false))).length : Int))) then
    (loopL (fun s2 =>
        if (decide ((0 : Int) ≤ (D.asI (at_ s2 0)))) then
          (if (decide (0 ≤ (D.asI (at_ s2 0)) ∧ (D.asI (at_ s2 0)) < (((D.asL (at_ s2 1))).length : Int))) then
            if (!(D.asB (at_ (D.asL (at_ s2 1)) (Int.toNat (D.asI (at_ s2 0)))))) then
              some (786436, [(at_ s2 1)])
            else
              if (decide (0 ≤ (D.asI (at_ s2 0)) ∧ (D.asI (at_ s2 0)) < (((D.asL (at_ r0 0))).length : Int))) then
              (loopL (fun s5 =>
                  if (decide ((D.asI (at_ s5 0)) < (((D.asL (at_ (D.asL (at_ r0 0)) (Int.toNat (D.asI (at_ s2 0)))))).length : Int))) then
                    if (decide (0 ≤ (D.asI (at_ s5 0)) ∧ (D.asI (at_ s5 0)) < (((D.asL (at_ (D.asL (at_ r0 0)) (Int.toNat (D.asI (at_ s2 0)))))).length : Int))) then
                    if (decide (0 ≤ (D.asI (at_ (D.asL (at_ (D.asL (at_ r0 0)) (Int.toNat (D.asI (at_ s2 0))))) (Int.toNat (D.asI (at_ s5 0))))) ∧ (D.asI (at_ (D.asL (at_ (D.asL (at_ r0 0)) (Int.toNat (D.asI (at_ s2 0))))) (Int.toNat (D.asI (at_ s5 0))))) < (((D.asL (at_ s5 1))).length : Int))) then
                    some (0, [(D.int (IntKind.wrap .i64 ((D.asI (at_ s5 0)) + (1 : Int)))), (D.list (((D.asL (at_ s5 1))).set (Int.toNat (D.asI (at_ (D.asL (at_ (D.asL (at_ r0 0)) (Int.toNat (D.asI (at_ s2 0))))) (Int.toNat (D.asI (at_ s5 0)))))) (D.bool true)))])
                    else none
                    else none
                  else
                    some (1245192, [(D.bool (decide ((D.asI (at_ s5 0)) < (((D.asL (at_ (D.asL (at_ r0 0)) (Int.toNat (D.asI (at_ s2 0)))))).length : Int)))), (at_ s5 0), (at_ s5 1)])) [(D.int 0), (at_ s2 1)]).bind fun o4 =>
              if o4.1 = 1245192 then
                some (786436, [(at_ o4.2 2)])
              else some o4
              else none
            else none).bind fun o3 =>
          if o3.1 = 786436 then
            some (0, [(D.int (IntKind.wrap .i64 ((D.asI (at_ s2 0)) - (1 : Int)))), (at_ o3.2 0)])
          else some o3
        else
          some (720902, [(at_ s2 1)])) [(D.int (IntKind.wrap .i64 ((((D.asL (at_ (D.asA a0) 0))).length : Int) - (1 : Int)))), (D.list (((List.replicate (Int.toNat (((D.asL (at_ (D.asA a0) 0))).length : Int)) (D.bool false))).set (Int.toNat (D.asI (at_ r0 1))) (D.bool true)))]).bind fun o1 =>
    if o1.1 = 720902 then
      some (2, [(at_ o1.2 0)])
    else some o1
    else none
    else none : Option Out) := by kernel_rfl
-- errata/code.sources
def h35 : List (Nat × List (Nat × Tm × Nat)) := [(19, [(0, ⟨[(26, (.dat (.slice 52) (.un (.fld 0) (.var 0)))), (27, (.dat (.int .i64) (.un .len (.un (.fld 0) (.var 0))))), (28, (.dat (.int .i64) (.var 2))), (1, (.bptr 8 [] 25)), (4, (.sli 120 0 3)), (6, (.sli 408 0 23)), (3, (.dat (.int .i64) (.int 0))), (2, (.nils 23))], [(8, (.box 25 (.dat (.struct 25) (.var 0)))), (120, (.arr 3 (.var 3) 0)), (408, (.arr 23 (.var 4) 0))]⟩, 3), (5, ⟨[(1, (.bptr 8 [] 25)), (4, (.sli 120 0 3)), (6, (.sli 408 0 23)), (3, (.dat (.int .i64) (.int 0))), (2, (.nils 23))], [(8, (.box 25 (.dat (.struct 25) (.var 0)))), (120, (.arr 3 (.var 2) 0)), (408, (.arr 23 (.var 3) 0))]⟩, 2)]), (27, [(0, ⟨[(7, (.dat (.int .i64) (.var 2))), (9, (.sli 368 0 3)), (35, (.dat (.int .i64) (.un .len (.var 5)))), (36, (.dat (.int .i64) (.var 6))), (34, (.dat (.slice 3) (.var 5))), (33, (.dat (.struct 52) (.bin .idx (.un (.fld 0) (.var 0)) (.var 2)))), (32, (.dat (.struct 52) (.bin .idx (.un (.fld 0) (.var 0)) (.var 2)))), (8, (.bptr 64 [] 52)), (30, (.dat (.int .i64) (.var 2))), (31, (.dat (.ptr 52) (.un .mkptr (.bin .idx (.un (.fld 0) (.var 0)) (.var 2))))), (26, (.dat (.slice 52) (.un (.fld 0) (.var 0)))), (29, (.dat (.bool) (.bin .ilt (.var 2) (.un .len (.un (.fld 0) (.var 0)))))), (27, (.dat (.int .i64) (.un .len (.un (.fld 0) (.var 0))))), (28, (.dat (.int .i64) (.var 2))), (1, (.bptr 8 [] 25)), (4, (.sli 120 0 3)), (6, (.sli 408 0 23)), (3, (.dat (.int .i64) (.int 0))), (2, (.nils 23))], [(368, (.arr 3 (.var 7) 0)), (64, (.box 52 (.dat (.struct 52) (.bin .idx (.un (.fld 0) (.var 0)) (.var 2))))), (8, (.box 25 (.dat (.struct 25) (.var 0)))), (120, (.arr 3 (.var 3) 0)), (408, (.arr 23 (.var 4) 0))]⟩, 2), (7, ⟨[(7, (.dat (.int .i64) (.var 2))), (9, (.sli 368 0 3)), (37, (.dat (.bool) (.var 6))), (35, (.dat (.int .i64) (.un .len (.var 5)))), (36, (.dat (.int .i64) (.var 7))), (34, (.dat (.slice 3) (.var 5))), (33, (.dat (.struct 52) (.bin .idx (.un (.fld 0) (.var 0)) (.var 2)))), (32, (.dat (.struct 52) (.bin .idx (.un (.fld 0) (.var 0)) (.var 2)))), (8, (.bptr 64 [] 52)), (30, (.dat (.int .i64) (.var 2))), (31, (.dat (.ptr 52) (.un .mkptr (.bin .idx (.un (.fld 0) (.var 0)) (.var 2))))), (26, (.dat (.slice 52) (.un (.fld 0) (.var 0)))), (29, (.dat (.bool) (.bin .ilt (.var 2) (.un .len (.un (.fld 0) (.var 0)))))), (27, (.dat (.int .i64) (.un .len (.un (.fld 0) (.var 0))))), (28, (.dat (.int .i64) (.var 2))), (1, (.bptr 8 [] 25)), (4, (.sli 120 0 3)), (6, (.sli 408 0 23)), (3, (.dat (.int .i64) (.int 0))), (2, (.nils 23))], [(368, (.arr 3 (.var 8) 0)), (64, (.box 52 (.dat (.struct 52) (.bin .idx (.un (.fld 0) (.var 0)) (.var 2))))), (8, (.box 25 (.dat (.struct 25) (.var 0)))), (120, (.arr 3 (.var 3) 0)), (408, (.arr 23 (.var 4) 0))]⟩, 3)]), (7, [(0, ⟨[(17, (.dat (.int .i64) (.un .len (.bin .rep (.un .len (.un (.fld 1) (.var 0))) (.int 0))))), (18, (.dat (.int .i64) (.var 1))), (4, (.sli 120 0 3)), (1, (.bptr 8 [] 25)), (3, (.dat (.int .i64) (.int 0))), (2, (.nils 23))], [(120, (.arr 3 (.var 2) 0)), (8, (.box 25 (.dat (.struct 25) (.var 0))))]⟩, 2), (3, ⟨[(4, (.sli 120 0 3)), (1, (.bptr 8 [] 25)), (3, (.dat (.int .i64) (.int 0))), (2, (.nils 23))], [(120, (.arr 3 (.var 1) 0)), (8, (.box 25 (.dat (.struct 25) (.var 0))))]⟩, 1)])]
def il35 : IL := (.chk (.bin (.ble 34359738368) (.un .len (.un (.fld 1) (.var 0))) (.un .len (.un (.fld 1) (.var 0)))) (.bindc (.loop [(.int 0), (.bin .rep (.un .len (.un (.fld 1) (.var 0))) (.int 0))] (.ite (.bin .ilt (.var 1) (.un .len (.bin .rep (.un .len (.un (.fld 1) (.var 0))) (.int 0)))) (.chk (.bin .inb (.un .len (.var 2)) (.var 1)) (.out 0 [(.bin (.add .i64) (.var 1) (.int 1)), (.tri .set (.var 2) (.var 1) (.int (-1)))])) (.out 458758 [(.var 2)]))) 458758 1 (.bindc (.loop [(.int 0), (.var 1), .lnil] (.ite (.bin .ilt (.var 2) (.un .len (.un (.fld 0) (.var 0)))) (.chk (.bin .inb (.un .len (.un (.fld 0) (.var 0))) (.var 2)) (.call [] 1 39 [(.bin .idx (.un (.fld 0) (.var 0)) (.var 2))] (.bindc (.loop [(.int 0), .lnil] (.ite (.bin .ilt (.var 6) (.un .len (.var 5))) (.chk (.bin .inb (.un .len (.var 5)) (.var 6)) (.chk (.bin .inb (.un .len (.var 3)) (.bin .idx (.var 5) (.var 6))) (.chk (.bin (.fits 34359738368) (.un .len (.var 7)) (.un .len (.bin .cons (.bin .idx (.var 3) (.bin .idx (.var 5) (.var 6))) .lnil))) (.out 0 [(.bin (.add .i64) (.var 6) (.int 1)), (.bin .snoc (.var 7) (.bin .idx (.var 3) (.bin .idx (.var 5) (.var 6))))])))) (.out 1769482 [(.bin .ilt (.var 6) (.un .len (.var 5))), (.var 6), (.var 7)]))) 1769482 3 (.chk (.bin (.fits 34359738368) (.un .len (.var 4)) (.un .len (.bin .cons (.var 8) .lnil))) (.chk (.bin .inb (.un .len (.var 3)) (.un (.fld 1) (.bin .idx (.un (.fld 0) (.var 0)) (.var 2)))) (.out 0 [(.bin (.add .i64) (.var 2) (.int 1)), (.tri .set (.var 3) (.un (.fld 1) (.bin .idx (.un (.fld 0) (.var 0)) (.var 2))) (.var 2)), (.bin .snoc (.var 4) (.var 8))])))))) (.out 1245192 [(.var 3), (.var 4)]))) 1245192 2 (.chk (.bin .inb (.un .len (.var 2)) (.un (.fld 2) (.var 0))) (.out 2 [(.var 3), (.bin .idx (.var 2) (.un (.fld 2) (.var 0)))])))))
theorem d35 : decompF C ⟨[.struct 25], [.slice 23, .int .i64], [true, false]⟩ Tryd.f35 h35 = some il35 := by kernel_rfl
theorem e35 (R : Fns) (a0 : D) : den C.G R il35 [a0] =
    (if (D.asB (U2.ev (.ble 34359738368) (D.int (((D.asL (at_ (D.asA a0) 1))).length : Int)) (D.int (((D.asL (at_ (D.asA a0) 1))).length : Int)))) then
    (loopL (fun s1 =>
        if (decide ((D.asI (at_ s1 0)) < (((List.replicate (Int.toNat (((D.asL (at_ (D.asA a0) 1))).length : Int)) (D.int 0))).length : Int))) then
          if (decide (0 ≤ (D.asI (at_ s1 0)) ∧ (D.asI (at_ s1 0)) < (((D.asL (at_ s1 1))).length : Int))) then
          some (0, [(D.int (IntKind.wrap .i64 ((D.asI (at_ s1 0)) + (1 : Int)))), (D.list (((D.asL (at_ s1 1))).set (Int.toNat (D.asI (at_ s1 0))) (D.int (-1))))])
          else none
        else
          some (458758, [(at_ s1 1)])) [(D.int 0), (D.list (List.replicate (Int.toNat (((D.asL (at_ (D.asA a0) 1))).length : Int)) (D.int 0)))]).bind fun o0 =>
    if o0.1 = 458758 then
      (loopL (fun s2 =>
          if (decide ((D.asI (at_ s2 0)) < (((D.asL (at_ (D.asA a0) 0))).length : Int))) then
            if (decide (0 ≤ (D.asI (at_ s2 0)) ∧ (D.asI (at_ s2 0)) < (((D.asL (at_ (D.asA a0) 0))).length : Int))) then
            (R 39 [(at_ (D.asL (at_ (D.asA a0) 0)) (Int.toNat (D.asI (at_ s2 0))))]).bind fun r3 =>
            (loopL (fun s5 =>
                if (decide ((D.asI (at_ s5 0)) < (((D.asL (at_ r3 0))).length : Int))) then
                  if (decide (0 ≤ (D.asI (at_ s5 0)) ∧ (D.asI (at_ s5 0)) < (((D.asL (at_ r3 0))).length : Int))) then
                  if (decide (0 ≤ (D.asI (at_ (D.asL (at_ r3 0)) (Int.toNat (D.asI (at_ s5 0))))) ∧ (D.asI (at_ (D.asL (at_ r3 0)) (Int.toNat (D.asI (at_ s5 0))))) < (((D.asL (at_ s2 1))).length : Int))) then
                  if (D.asB (U2.ev (.fits 34359738368) (D.int (((D.asL (at_ s5 1))).length : Int)) (D.int ((((at_ (D.asL (at_ s2 1)) (Int.toNat (D.asI (at_ (D.asL (at_ r3 0)) (Int.toNat (D.asI (at_ s5 0))))))) :: ([] : List D))).length : Int)))) then
                  some (0, [(D.int (IntKind.wrap .i64 ((D.asI (at_ s5 0)) + (1 : Int)))), (D.list ((D.asL (at_ s5 1)) ++ [(at_ (D.asL (at_ s2 1)) (Int.toNat (D.asI (at_ (D.asL (at_ r3 0)) (Int.toNat (D.asI (at_ s5 0)))))))]))])
                  else none
                  else none
                  else none
                else
                  some (1769482, [(D.bool (decide ((D.asI (at_ s5 0)) < (((D.asL (at_ r3 0))).length : Int)))), (at_ s5 0), (at_ s5 1)])) [(D.int 0), (D.list [])]).bind fun o4 =>
            if o4.1 = 1769482 then
              if (D.asB (U2.ev (.fits 34359738368) (D.int (((D.asL (at_ s2 2))).length : Int)) (D.int ((((at_ o4.2 2) :: ([] : List D))).length : Int)))) then
              if (decide (0 ≤ (D.asI (at_ (D.asA (at_ (D.asL (at_ (D.asA a0) 0)) (Int.toNat (D.asI (at_ s2 0))))) 1)) ∧ (D.asI (at_ (D.asA (at_ (D.asL (at_ (D.asA a0) 0)) (Int.toNat (D.asI (at_ s2 0))))) 1)) < (((D.asL (at_ s2 1))).length : Int))) then
              some (0, [(D.int (IntKind.wrap .i64 ((D.asI (at_ s2 0)) + (1 : Int)))), (D.list (((D.asL (at_ s2 1))).set (Int.toNat (D.asI (at_ (D.asA (at_ (D.asL (at_ (D.asA a0) 0)) (Int.toNat (D.asI (at_ s2 0))))) 1))) (at_ s2 0))), (D.list ((D.asL (at_ s2 2)) ++ [(at_ o4.2 2)]))])
              else none
              else none
            else some o4
            else none
          else
            some (1245192, [(at_ s2 1), (at_ s2 2)])) [(D.int 0), (at_ o0.2 0), (D.list [])]).bind fun o1 =>
      if o1.1 = 1245192 then
        if (decide (0 ≤ (D.asI (at_ (D.asA a0) 2)) ∧ (D.asI (at_ (D.asA a0) 2)) < (((D.asL (at_ o1.2 0))).length : Int))) then
        some (2, [(at_ o1.2 1), (at_ (D.asL (at_ o1.2 0)) (Int.toNat (D.asI (at_ (D.asA a0) 2))))])
        else none
      else some o1
    else some o0
    else none : Option Out) := by kernel_rfl
-- errata/errataref03.All
def h36 : List (Nat × List (Nat × Tm × Nat)) := [(5, [(0, ⟨[(0, (.dat (.slice 39) (.var 0))), (3, (.dat (.int .i64) (.var 1))), (2, (.dat (.bool) (.bool false)))], []⟩, 1), (3, ⟨[(2, (.dat (.bool) (.bool false)))], []⟩, 0)])]
def il36 : IL := (.bindc (.loop [(.int 0)] (.ite (.bin .ilt (.var 1) (.un .len (.var 0))) (.chk (.bin .inb (.un .len (.var 0)) (.var 1)) (.call [] 1 53 [(.bin .idx (.var 0) (.var 1))] (.ite (.un .not (.var 2)) (.out 2 [(.bool false)]) (.out 0 [(.bin (.add .i64) (.var 1) (.int 1))])))) (.out 327686 []))) 327686 0 (.out 2 [(.bool true)]))
theorem d36 : decompF C ⟨[.slice 39], [.bool], [false]⟩ Tryd.f36 h36 = some il36 := by kernel_rfl
theorem e36 (R : Fns) (a0 : D) : den C.G R il36 [a0] =
    ((loopL (fun s1 =>
        if (decide ((D.asI (at_ s1 0)) < (((D.asL a0)).length : Int))) then
          if (decide (0 ≤ (D.asI (at_ s1 0)) ∧ (D.asI (at_ s1 0)) < (((D.asL a0)).length : Int))) then
          (R 53 [(at_ (D.asL a0) (Int.toNat (D.asI (at_ s1 0))))]).bind fun r2 =>
          if (!(D.asB (at_ r2 0))) then
            some (2, [(D.bool false)])
          else
            some (0, [(D.int (IntKind.wrap .i64 ((D.asI (at_ s1 0)) + (1 : Int))))])
          else none
        else
          some (327686, [])) [(D.int 0)]).bind fun o0 =>
    if o0.1 = 327686 then
      some (2, [(D.bool true)])
    else some o0 : Option Out) := by kernel_rfl
-- errata/code.arity
def h56 : List (Nat × List (Nat × Tm × Nat)) := [(14, [(1, ⟨[(3, (.dat (.int .i64) (.var 0))), (4, (.dat (.bool) (.var 1))), (2, (.dat (.int .i64) (.int 0)))], []⟩, 1)]), (22, [(1, ⟨[(3, (.dat (.int .i64) (.var 0))), (10, (.dat (.bool) (.var 2))), (2, (.dat (.int .i64) (.int 0)))], []⟩, 1)])]
def il56 : IL := (.bindc (.ite (.bin .ieq (.var 0) (.int 0)) (.out 917508 [(.bin .ieq (.var 0) (.int 0))]) (.ite (.bin .ieq (.var 0) (.int 1)) (.out 917508 [(.bin .ieq (.var 0) (.int 1))]) (.ite (.bin .ieq (.var 0) (.int 2)) (.out 917508 [(.bin .ieq (.var 0) (.int 2))]) (.ite (.bin .ieq (.var 0) (.int 3)) (.out 917508 [(.bin .ieq (.var 0) (.int 3))]) (.out 917508 [(.bin .ieq (.var 0) (.int 5))]))))) 917508 1 (.ite (.var 1) (.out 2 [(.int 0)]) (.bindc (.ite (.bin .ieq (.var 0) (.int 6)) (.out 1441796 [(.bin .ieq (.var 0) (.int 6))]) (.ite (.bin .ieq (.var 0) (.int 7)) (.out 1441796 [(.bin .ieq (.var 0) (.int 7))]) (.out 1441796 [(.bin .ieq (.var 0) (.int 20))]))) 1441796 1 (.ite (.var 2) (.out 2 [(.int 1)]) (.ite (.bin .ieq (.var 0) (.int 21)) (.out 2 [(.int 3)]) (.out 2 [(.int 2)]))))))
theorem d56 : decompF C ⟨[.int .i64], [.int .i64], [false]⟩ Tryd.f56 h56 = some il56 := by kernel_rfl
theorem e56 (R : Fns) (a0 : D) : den C.G R il56 [a0] =
    ((if ((D.asI a0) == (0 : Int)) then
        some (917508, [(D.bool ((D.asI a0) == (0 : Int)))])
      else
        if ((D.asI a0) == (1 : Int)) then
          some (917508, [(D.bool ((D.asI a0) == (1 : Int)))])
        else
          if ((D.asI a0) == (2 : Int)) then
            some (917508, [(D.bool ((D.asI a0) == (2 : Int)))])
          else
            if ((D.asI a0) == (3 : Int)) then
              some (917508, [(D.bool ((D.asI a0) == (3 : Int)))])
            else
              some (917508, [(D.bool ((D.asI a0) == (5 : Int)))])).bind fun o0 =>
    if o0.1 = 917508 then
      if (D.asB (at_ o0.2 0)) then
        some (2, [(D.int 0)])
      else
        (if ((D.asI a0) == (6 : Int)) then
            some (1441796, [(D.bool ((D.asI a0) == (6 : Int)))])
          else
            if ((D.asI a0) == (7 : Int)) then
              some (1441796, [(D.bool ((D.asI a0) == (7 : Int)))])
            else
              some (1441796, [(D.bool ((D.asI a0) == (20 : Int)))])).bind fun o1 =>
        if o1.1 = 1441796 then
          if (D.asB (at_ o1.2 0)) then
            some (2, [(D.int 1)])
          else
            if ((D.asI a0) == (21 : Int)) then
              some (2, [(D.int 3)])
            else
              some (2, [(D.int 2)])
        else some o1
    else some o0 : Option Out) := by kernel_rfl
-- (errata/expr.scope).typed
def h58 : List (Nat × List (Nat × Tm × Nat)) := []
def il58 : IL := (.call [] 1 77 [(.var 1)] (.ite (.bin .ilt (.int 12) (.var 2)) (.out 2 [(.int 0), (.bool false)]) (.call [] 2 78 [(.var 0), (.var 1)] (.ite (.var 4) (.out 2 [(.var 3), (.bool true)]) (.out 2 [(.int 0), (.bool false)])))))
theorem d58 : decompF C ⟨[.struct 95, .struct 75], [.int .i64, .bool], [false, false]⟩ Tryd.f58 h58 = some il58 := by kernel_rfl
theorem e58 (R : Fns) (a0 a1 : D) : den C.G R il58 [a0, a1] =
    ((R 77 [a1]).bind fun r0 =>
    if (decide ((12 : Int) < (D.asI (at_ r0 0)))) then
      some (2, [(D.int 0), (D.bool false)])
    else
      (R 78 [a0, a1]).bind fun r1 =>
      if (D.asB (at_ r1 1)) then
        some (2, [(at_ r1 0), (D.bool true)])
      else
        some (2, [(D.int 0), (D.bool false)]) : Option Out) := by kernel_rfl
-- (*errata/vm.machine).three$1
def h69 : List (Nat × List (Nat × Tm × Nat)) := []
def il69 : IL := (.chk (.un .isptr (.var 1)) (.chk (.un .isptr (.var 2)) (.chk (.un .isptr (.var 3)) (.chk (.bin .inb (.un .len (.un .deref (.var 1))) (.var 0)) (.ite (.bin .ieq (.un (.fld 1) (.bin .idx (.un .deref (.var 1)) (.var 0))) (.int 1)) (.chk (.bin .inb (.un .len (.un .deref (.var 2))) (.var 0)) (.out 2 [(.bin .idx (.un .deref (.var 2)) (.var 0))])) (.chk (.bin .inb (.un .len (.un .deref (.var 3))) (.var 0)) (.out 2 [(.bin .idx (.un .deref (.var 3)) (.var 0))])))))))
theorem d69 : decompF C ⟨[.int .i64, .ptr 33, .ptr 33, .ptr 33], [.struct 39], [false]⟩ Tryd.f69 h69 = some il69 := by kernel_rfl
theorem e69 (R : Fns) (a0 a1 a2 a3 : D) : den C.G R il69 [a0, a1, a2, a3] =
    (if (D.isP a1) then
    if (D.isP a2) then
    if (D.isP a3) then
    if (decide (0 ≤ (D.asI a0) ∧ (D.asI a0) < (((D.asL (D.asP a1))).length : Int))) then
    if ((D.asI (at_ (D.asA (at_ (D.asL (D.asP a1)) (Int.toNat (D.asI a0)))) 1)) == (1 : Int)) then
      if (decide (0 ≤ (D.asI a0) ∧ (D.asI a0) < (((D.asL (D.asP a2))).length : Int))) then
      some (2, [(at_ (D.asL (D.asP a2)) (Int.toNat (D.asI a0)))])
      else none
    else
      if (decide (0 ≤ (D.asI a0) ∧ (D.asI a0) < (((D.asL (D.asP a3))).length : Int))) then
      some (2, [(at_ (D.asL (D.asP a3)) (Int.toNat (D.asI a0)))])
      else none
    else none
    else none
    else none
    else none : Option Out) := by kernel_rfl
-- errata/errataref25.name
def h70 : List (Nat × List (Nat × Tm × Nat)) := []
def il70 : IL := (.ite (.bin .or (.bin .ilt (.var 0) (.int 0)) (.bin .ile (.un .len (.bin .cons (.str [105, 110, 116]) (.bin .cons (.str [116, 101, 120, 116]) (.bin .cons (.str [98, 111, 111, 108]) (.bin .cons (.str [99, 111, 108]) (.bin .cons (.str []) (.bin .cons (.str [116, 105, 109, 101]) (.bin .cons (.str [110, 111, 116]) (.bin .cons (.str [110, 101, 103]) (.bin .cons (.str [97, 100, 100]) (.bin .cons (.str [115, 117, 98]) (.bin .cons (.str [109, 117, 108]) (.bin .cons (.str [100, 105, 118]) (.bin .cons (.str [109, 111, 100]) (.bin .cons (.str [101, 113]) (.bin .cons (.str [110, 101]) (.bin .cons (.str [108, 116]) (.bin .cons (.str [108, 101]) (.bin .cons (.str [97, 110, 100]) (.bin .cons (.str [111, 114]) (.bin .cons (.str [99, 111, 110, 99, 97, 116]) (.bin .cons (.str [108, 101, 110]) (.bin .cons (.str [105, 102]) (.bin .cons (.str []) .lnil)))))))))))))))))))))))) (.var 0))) (.out 2 [(.str [])]) (.chk (.bin .inb (.un .len (.bin .cons (.str [105, 110, 116]) (.bin .cons (.str [116, 101, 120, 116]) (.bin .cons (.str [98, 111, 111, 108]) (.bin .cons (.str [99, 111, 108]) (.bin .cons (.str []) (.bin .cons (.str [116, 105, 109, 101]) (.bin .cons (.str [110, 111, 116]) (.bin .cons (.str [110, 101, 103]) (.bin .cons (.str [97, 100, 100]) (.bin .cons (.str [115, 117, 98]) (.bin .cons (.str [109, 117, 108]) (.bin .cons (.str [100, 105, 118]) (.bin .cons (.str [109, 111, 100]) (.bin .cons (.str [101, 113]) (.bin .cons (.str [110, 101]) (.bin .cons (.str [108, 116]) (.bin .cons (.str [108, 101]) (.bin .cons (.str [97, 110, 100]) (.bin .cons (.str [111, 114]) (.bin .cons (.str [99, 111, 110, 99, 97, 116]) (.bin .cons (.str [108, 101, 110]) (.bin .cons (.str [105, 102]) (.bin .cons (.str []) .lnil)))))))))))))))))))))))) (.var 0)) (.out 2 [(.bin .idx (.bin .cons (.str [105, 110, 116]) (.bin .cons (.str [116, 101, 120, 116]) (.bin .cons (.str [98, 111, 111, 108]) (.bin .cons (.str [99, 111, 108]) (.bin .cons (.str []) (.bin .cons (.str [116, 105, 109, 101]) (.bin .cons (.str [110, 111, 116]) (.bin .cons (.str [110, 101, 103]) (.bin .cons (.str [97, 100, 100]) (.bin .cons (.str [115, 117, 98]) (.bin .cons (.str [109, 117, 108]) (.bin .cons (.str [100, 105, 118]) (.bin .cons (.str [109, 111, 100]) (.bin .cons (.str [101, 113]) (.bin .cons (.str [110, 101]) (.bin .cons (.str [108, 116]) (.bin .cons (.str [108, 101]) (.bin .cons (.str [97, 110, 100]) (.bin .cons (.str [111, 114]) (.bin .cons (.str [99, 111, 110, 99, 97, 116]) (.bin .cons (.str [108, 101, 110]) (.bin .cons (.str [105, 102]) (.bin .cons (.str []) .lnil))))))))))))))))))))))) (.var 0))])))
theorem d70 : decompF C ⟨[.int .i64], [.str], [false]⟩ Tryd.f70 h70 = some il70 := by kernel_rfl
theorem e70 (R : Fns) (a0 : D) : den C.G R il70 [a0] =
    (if ((decide ((D.asI a0) < (0 : Int))) || (decide (((((D.str [105, 110, 116]) :: ((D.str [116, 101, 120, 116]) :: ((D.str [98, 111, 111, 108]) :: ((D.str [99, 111, 108]) :: ((D.str []) :: ((D.str [116, 105, 109, 101]) :: ((D.str [110, 111, 116]) :: ((D.str [110, 101, 103]) :: ((D.str [97, 100, 100]) :: ((D.str [115, 117, 98]) :: ((D.str [109, 117, 108]) :: ((D.str [100, 105, 118]) :: ((D.str [109, 111, 100]) :: ((D.str [101, 113]) :: ((D.str [110, 101]) :: ((D.str [108, 116]) :: ((D.str [108, 101]) :: ((D.str [97, 110, 100]) :: ((D.str [111, 114]) :: ((D.str [99, 111, 110, 99, 97, 116]) :: ((D.str [108, 101, 110]) :: ((D.str [105, 102]) :: ((D.str []) :: ([] : List D))))))))))))))))))))))))).length : Int) ≤ (D.asI a0)))) then
      some (2, [(D.str [])])
    else
      if (decide (0 ≤ (D.asI a0) ∧ (D.asI a0) < ((((D.str [105, 110, 116]) :: ((D.str [116, 101, 120, 116]) :: ((D.str [98, 111, 111, 108]) :: ((D.str [99, 111, 108]) :: ((D.str []) :: ((D.str [116, 105, 109, 101]) :: ((D.str [110, 111, 116]) :: ((D.str [110, 101, 103]) :: ((D.str [97, 100, 100]) :: ((D.str [115, 117, 98]) :: ((D.str [109, 117, 108]) :: ((D.str [100, 105, 118]) :: ((D.str [109, 111, 100]) :: ((D.str [101, 113]) :: ((D.str [110, 101]) :: ((D.str [108, 116]) :: ((D.str [108, 101]) :: ((D.str [97, 110, 100]) :: ((D.str [111, 114]) :: ((D.str [99, 111, 110, 99, 97, 116]) :: ((D.str [108, 101, 110]) :: ((D.str [105, 102]) :: ((D.str []) :: ([] : List D))))))))))))))))))))))))).length : Int))) then
      some (2, [(at_ ((D.str [105, 110, 116]) :: ((D.str [116, 101, 120, 116]) :: ((D.str [98, 111, 111, 108]) :: ((D.str [99, 111, 108]) :: ((D.str []) :: ((D.str [116, 105, 109, 101]) :: ((D.str [110, 111, 116]) :: ((D.str [110, 101, 103]) :: ((D.str [97, 100, 100]) :: ((D.str [115, 117, 98]) :: ((D.str [109, 117, 108]) :: ((D.str [100, 105, 118]) :: ((D.str [109, 111, 100]) :: ((D.str [101, 113]) :: ((D.str [110, 101]) :: ((D.str [108, 116]) :: ((D.str [108, 101]) :: ((D.str [97, 110, 100]) :: ((D.str [111, 114]) :: ((D.str [99, 111, 110, 99, 97, 116]) :: ((D.str [108, 101, 110]) :: ((D.str [105, 102]) :: ((D.str []) :: ([] : List D)))))))))))))))))))))))) (Int.toNat (D.asI a0)))])
      else none : Option Out) := by kernel_rfl
-- errata/expr.Right$1
def h75 : List (Nat × List (Nat × Tm × Nat)) := []
def il75 : IL := (.call [] 1 76 [(.var 0)] (.out 2 [(.un .not (.var 1))]))
theorem d75 : decompF C ⟨[.int .i64], [.bool], [false]⟩ Tryd.f75 h75 = some il75 := by kernel_rfl
theorem e75 (R : Fns) (a0 : D) : den C.G R il75 [a0] =
    ((R 76 [a0]).bind fun r0 =>
    some (2, [(D.bool (!(D.asB (at_ r0 0))))]) : Option Out) := by kernel_rfl
-- errata/expr.levels
def h77 : List (Nat × List (Nat × Tm × Nat)) := [(7, [(0, ⟨[(7, (.dat (.slice 75) (.un (.fld 3) (.var 0)))), (8, (.dat (.int .i64) (.un .len (.un (.fld 3) (.var 0))))), (9, (.dat (.int .i64) (.var 1))), (3, (.dat (.int .i64) (.var 2))), (2, (.dat (.int .i64) (.int 0)))], []⟩, 2), (3, ⟨[(3, (.dat (.int .i64) (.var 1))), (2, (.dat (.int .i64) (.int 0)))], []⟩, 1)])]
def il77 : IL := (.bindc (.loop [(.int 0), (.int 0)] (.ite (.bin .ilt (.var 1) (.un .len (.un (.fld 3) (.var 0)))) (.chk (.bin .inb (.un .len (.un (.fld 3) (.var 0))) (.var 1)) (.call [] 1 77 [(.bin .idx (.un (.fld 3) (.var 0)) (.var 1))] (.out 0 [(.bin (.add .i64) (.var 1) (.int 1)), (.bin .imax (.var 2) (.var 3))]))) (.out 458758 [(.var 2)]))) 458758 1 (.out 2 [(.bin (.add .i64) (.var 1) (.int 1))]))
theorem d77 : decompF C ⟨[.struct 75], [.int .i64], [false]⟩ Tryd.f77 h77 = some il77 := by kernel_rfl
theorem e77 (R : Fns) (a0 : D) : den C.G R il77 [a0] =
    ((loopL (fun s1 =>
        if (decide ((D.asI (at_ s1 0)) < (((D.asL (at_ (D.asA a0) 3))).length : Int))) then
          if (decide (0 ≤ (D.asI (at_ s1 0)) ∧ (D.asI (at_ s1 0)) < (((D.asL (at_ (D.asA a0) 3))).length : Int))) then
          (R 77 [(at_ (D.asL (at_ (D.asA a0) 3)) (Int.toNat (D.asI (at_ s1 0))))]).bind fun r2 =>
          some (0, [(D.int (IntKind.wrap .i64 ((D.asI (at_ s1 0)) + (1 : Int)))), (D.int (if (D.asI (at_ r2 0)) > (D.asI (at_ s1 1)) then (D.asI (at_ r2 0)) else (D.asI (at_ s1 1))))])
          else none
        else
          some (458758, [(at_ s1 1)])) [(D.int 0), (D.int 0)]).bind fun o0 =>
    if o0.1 = 458758 then
      some (2, [(D.int (IntKind.wrap .i64 ((D.asI (at_ o0.2 0)) + (1 : Int))))])
    else some o0 : Option Out) := by kernel_rfl
-- cmp.Or[int]
def h82 : List (Nat × List (Nat × Tm × Nat)) := [(7, [(0, ⟨[(6, (.dat (.slice 3) (.var 0))), (7, (.dat (.int .i64) (.un .len (.var 0)))), (8, (.dat (.int .i64) (.var 1))), (3, (.dat (.int .i64) (.int 0))), (2, (.dat (.int .i64) (.int 0)))], []⟩, 1), (3, ⟨[(3, (.dat (.int .i64) (.int 0))), (2, (.dat (.int .i64) (.int 0)))], []⟩, 0)])]
def il82 : IL := (.bindc (.loop [(.int 0)] (.ite (.bin .ilt (.var 1) (.un .len (.var 0))) (.chk (.bin .inb (.un .len (.var 0)) (.var 1)) (.ite (.un .not (.bin .ieq (.bin .idx (.var 0) (.var 1)) (.int 0))) (.out 2 [(.bin .idx (.var 0) (.var 1))]) (.out 0 [(.bin (.add .i64) (.var 1) (.int 1))]))) (.out 458758 []))) 458758 0 (.out 2 [(.int 0)]))
theorem d82 : decompF C ⟨[.slice 3], [.int .i64], [false]⟩ Tryd.f82 h82 = some il82 := by kernel_rfl
theorem e82 (R : Fns) (a0 : D) : den C.G R il82 [a0] =
    ((loopL (fun s1 =>
        if (decide ((D.asI (at_ s1 0)) < (((D.asL a0)).length : Int))) then
          if (decide (0 ≤ (D.asI (at_ s1 0)) ∧ (D.asI (at_ s1 0)) < (((D.asL a0)).length : Int))) then
          if (!((D.asI (at_ (D.asL a0) (Int.toNat (D.asI (at_ s1 0))))) == (0 : Int))) then
            some (2, [(at_ (D.asL a0) (Int.toNat (D.asI (at_ s1 0))))])
          else
            some (0, [(D.int (IntKind.wrap .i64 ((D.asI (at_ s1 0)) + (1 : Int))))])
          else none
        else
          some (458758, [])) [(D.int 0)]).bind fun o0 =>
    if o0.1 = 458758 then
      some (2, [(D.int 0)])
    else some o0 : Option Out) := by kernel_rfl
-- cmp.Compare[int]
def h83 : List (Nat × List (Nat × Tm × Nat)) := []
def il83 : IL := (.call [] 1 93 [(.var 0)] (.call [] 1 93 [(.var 1)] (.ite (.var 2) (.ite (.var 3) (.out 2 [(.int 0)]) (.out 2 [(.int (-1))])) (.ite (.var 3) (.out 2 [(.int 1)]) (.ite (.bin .ilt (.var 0) (.var 1)) (.out 2 [(.int (-1))]) (.ite (.bin .ilt (.var 1) (.var 0)) (.out 2 [(.int 1)]) (.out 2 [(.int 0)])))))))
theorem d83 : decompF C ⟨[.int .i64, .int .i64], [.int .i64], [false]⟩ Tryd.f83 h83 = some il83 := by kernel_rfl
theorem e83 (R : Fns) (a0 a1 : D) : den C.G R il83 [a0, a1] =
    ((R 93 [a0]).bind fun r0 =>
    (R 93 [a1]).bind fun r1 =>
    if (D.asB (at_ r0 0)) then
      if (D.asB (at_ r1 0)) then
        some (2, [(D.int 0)])
      else
        some (2, [(D.int (-1))])
    else
      if (D.asB (at_ r1 0)) then
        some (2, [(D.int 1)])
      else
        if (decide ((D.asI a0) < (D.asI a1))) then
          some (2, [(D.int (-1))])
        else
          if (decide ((D.asI a1) < (D.asI a0))) then
            some (2, [(D.int 1)])
          else
            some (2, [(D.int 0)]) : Option Out) := by kernel_rfl
-- errata/errataref16.apply
def h98 : List (Nat × List (Nat × Tm × Nat)) := []
def il98 : IL := (.ite (.bin .ieq (.un (.fld 0) (.var 0)) (.int 0)) (.out 2 [(.un .mkagg (.bin .cons (.int 0) (.bin .cons (.un (.fld 1) (.var 0)) (.bin .cons (.str []) .lnil))))]) (.ite (.bin .ieq (.un (.fld 0) (.var 0)) (.int 1)) (.out 2 [(.un .mkagg (.bin .cons (.int 1) (.bin .cons (.int 0) (.bin .cons (.un (.fld 2) (.var 0)) .lnil))))]) (.ite (.bin .ieq (.un (.fld 0) (.var 0)) (.int 2)) (.call [] 1 106 [(.bin .ieq (.un (.fld 1) (.var 0)) (.int 1))] (.out 2 [(.var 2)])) (.ite (.bin .ieq (.un (.fld 0) (.var 0)) (.int 6)) (.chk (.bin .inb (.un .len (.var 1)) (.int 0)) (.call [] 1 106 [(.bin .ieq (.un (.fld 1) (.bin .idx (.var 1) (.int 0))) (.int 0))] (.out 2 [(.var 2)]))) (.ite (.bin .ieq (.un (.fld 0) (.var 0)) (.int 7)) (.chk (.bin .inb (.un .len (.var 1)) (.int 0)) (.out 2 [(.un .mkagg (.bin .cons (.int 0) (.bin .cons (.un (.neg .i64) (.un (.fld 1) (.bin .idx (.var 1) (.int 0)))) (.bin .cons (.str []) .lnil))))])) (.ite (.bin .ieq (.un (.fld 0) (.var 0)) (.int 20)) (.chk (.bin .inb (.un .len (.var 1)) (.int 0)) (.out 2 [(.un .mkagg (.bin .cons (.int 0) (.bin .cons (.un .slen (.un (.fld 2) (.bin .idx (.var 1) (.int 0)))) (.bin .cons (.str []) .lnil))))])) (.chk (.bin .inb (.un .len (.var 1)) (.int 0)) (.chk (.bin .inb (.un .len (.var 1)) (.int 1)) (.ite (.bin .ieq (.un (.fld 0) (.var 0)) (.int 8)) (.out 2 [(.un .mkagg (.bin .cons (.int 0) (.bin .cons (.bin (.add .i64) (.un (.fld 1) (.bin .idx (.var 1) (.int 0))) (.un (.fld 1) (.bin .idx (.var 1) (.int 1)))) (.bin .cons (.str []) .lnil))))]) (.ite (.bin .ieq (.un (.fld 0) (.var 0)) (.int 9)) (.out 2 [(.un .mkagg (.bin .cons (.int 0) (.bin .cons (.bin (.sub .i64) (.un (.fld 1) (.bin .idx (.var 1) (.int 0))) (.un (.fld 1) (.bin .idx (.var 1) (.int 1)))) (.bin .cons (.str []) .lnil))))]) (.ite (.bin .ieq (.un (.fld 0) (.var 0)) (.int 10)) (.out 2 [(.un .mkagg (.bin .cons (.int 0) (.bin .cons (.bin (.mul .i64) (.un (.fld 1) (.bin .idx (.var 1) (.int 0))) (.un (.fld 1) (.bin .idx (.var 1) (.int 1)))) (.bin .cons (.str []) .lnil))))]) (.ite (.bin .ieq (.un (.fld 0) (.var 0)) (.int 11)) (.ite (.bin .ieq (.un (.fld 1) (.bin .idx (.var 1) (.int 1))) (.int 0)) (.out 2 [(.un .mkagg (.bin .cons (.int 0) (.bin .cons (.int 0) (.bin .cons (.str []) .lnil))))]) (.chk (.un .not (.bin .ieq (.un (.fld 1) (.bin .idx (.var 1) (.int 1))) (.int 0))) (.out 2 [(.un .mkagg (.bin .cons (.int 0) (.bin .cons (.bin (.quo .i64) (.un (.fld 1) (.bin .idx (.var 1) (.int 0))) (.un (.fld 1) (.bin .idx (.var 1) (.int 1)))) (.bin .cons (.str []) .lnil))))]))) (.ite (.bin .ieq (.un (.fld 0) (.var 0)) (.int 12)) (.ite (.bin .ieq (.un (.fld 1) (.bin .idx (.var 1) (.int 1))) (.int 0)) (.out 2 [(.un .mkagg (.bin .cons (.int 0) (.bin .cons (.int 0) (.bin .cons (.str []) .lnil))))]) (.chk (.un .not (.bin .ieq (.un (.fld 1) (.bin .idx (.var 1) (.int 1))) (.int 0))) (.out 2 [(.un .mkagg (.bin .cons (.int 0) (.bin .cons (.bin (.rem .i64) (.un (.fld 1) (.bin .idx (.var 1) (.int 0))) (.un (.fld 1) (.bin .idx (.var 1) (.int 1)))) (.bin .cons (.str []) .lnil))))]))) (.ite (.bin .ieq (.un (.fld 0) (.var 0)) (.int 13)) (.call [] 1 106 [(.bin .deq (.bin .idx (.var 1) (.int 0)) (.bin .idx (.var 1) (.int 1)))] (.out 2 [(.var 2)])) (.ite (.bin .ieq (.un (.fld 0) (.var 0)) (.int 14)) (.call [] 1 106 [(.un .not (.bin .deq (.bin .idx (.var 1) (.int 0)) (.bin .idx (.var 1) (.int 1))))] (.out 2 [(.var 2)])) (.ite (.bin .ieq (.un (.fld 0) (.var 0)) (.int 15)) (.call [] 1 107 [(.bin .idx (.var 1) (.int 0)), (.bin .idx (.var 1) (.int 1))] (.call [] 1 106 [(.var 2)] (.out 2 [(.var 3)]))) (.ite (.bin .ieq (.un (.fld 0) (.var 0)) (.int 16)) (.call [] 1 107 [(.bin .idx (.var 1) (.int 1)), (.bin .idx (.var 1) (.int 0))] (.call [] 1 106 [(.un .not (.var 2))] (.out 2 [(.var 3)]))) (.ite (.bin .ieq (.un (.fld 0) (.var 0)) (.int 17)) (.call [] 1 106 [(.bin .and (.bin .ieq (.un (.fld 1) (.bin .idx (.var 1) (.int 0))) (.int 1)) (.bin .ieq (.un (.fld 1) (.bin .idx (.var 1) (.int 1))) (.int 1)))] (.out 2 [(.var 2)])) (.ite (.bin .ieq (.un (.fld 0) (.var 0)) (.int 18)) (.call [] 1 106 [(.bin .or (.bin .ieq (.un (.fld 1) (.bin .idx (.var 1) (.int 0))) (.int 1)) (.bin .ieq (.un (.fld 1) (.bin .idx (.var 1) (.int 1))) (.int 1)))] (.out 2 [(.var 2)])) (.chk (.bin (.fits 34359738368) (.un .slen (.un (.fld 2) (.bin .idx (.var 1) (.int 0)))) (.un .slen (.un (.fld 2) (.bin .idx (.var 1) (.int 1))))) (.chk (.tri .cut (.int 0) (.bin .imin (.un .slen (.bin .cat (.un (.fld 2) (.bin .idx (.var 1) (.int 0))) (.un (.fld 2) (.bin .idx (.var 1) (.int 1))))) (.int 200)) (.un .slen (.bin .cat (.un (.fld 2) (.bin .idx (.var 1) (.int 0))) (.un (.fld 2) (.bin .idx (.var 1) (.int 1)))))) (.out 2 [(.un .mkagg (.bin .cons (.int 1) (.bin .cons (.int 0) (.bin .cons (.bin .sdrop (.bin .stake (.bin .cat (.un (.fld 2) (.bin .idx (.var 1) (.int 0))) (.un (.fld 2) (.bin .idx (.var 1) (.int 1)))) (.bin .imin (.un .slen (.bin .cat (.un (.fld 2) (.bin .idx (.var 1) (.int 0))) (.un (.fld 2) (.bin .idx (.var 1) (.int 1))))) (.int 200))) (.int 0)) .lnil))))]))))))))))))))))))))))
theorem d98 : decompF C ⟨[.struct 75, .slice 39], [.struct 39], [false]⟩ Tryd.f98 h98 = some il98 := by kernel_rfl
theorem e98 (R : Fns) (a0 a1 : D) : den C.G R il98 [a0, a1] =
    (if ((D.asI (at_ (D.asA a0) 0)) == (0 : Int)) then
      some (2, [(D.agg ((D.int 0) :: ((at_ (D.asA a0) 1) :: ((D.str []) :: ([] : List D)))))])
    else
      if ((D.asI (at_ (D.asA a0) 0)) == (1 : Int)) then
        some (2, [(D.agg ((D.int 1) :: ((D.int 0) :: ((at_ (D.asA a0) 2) :: ([] : List D)))))])
      else
        if ((D.asI (at_ (D.asA a0) 0)) == (2 : Int)) then
          (R 106 [(D.bool ((D.asI (at_ (D.asA a0) 1)) == (1 : Int)))]).bind fun r0 =>
          some (2, [(at_ r0 0)])
        else
          if ((D.asI (at_ (D.asA a0) 0)) == (6 : Int)) then
            if (decide (0 ≤ (0 : Int) ∧ (0 : Int) < (((D.asL a1)).length : Int))) then
            (R 106 [(D.bool ((D.asI (at_ (D.asA (at_ (D.asL a1) (Int.toNat (0 : Int)))) 1)) == (0 : Int)))]).bind fun r0 =>
            some (2, [(at_ r0 0)])
            else none
          else
            if ((D.asI (at_ (D.asA a0) 0)) == (7 : Int)) then
              if (decide (0 ≤ (0 : Int) ∧ (0 : Int) < (((D.asL a1)).length : Int))) then
              some (2, [(D.agg ((D.int 0) :: ((D.int (IntKind.wrap .i64 (0 - (D.asI (at_ (D.asA (at_ (D.asL a1) (Int.toNat (0 : Int)))) 1))))) :: ((D.str []) :: ([] : List D)))))])
              else none
            else
              if ((D.asI (at_ (D.asA a0) 0)) == (20 : Int)) then
                if (decide (0 ≤ (0 : Int) ∧ (0 : Int) < (((D.asL a1)).length : Int))) then
                some (2, [(D.agg ((D.int 0) :: ((D.int (((D.asS (at_ (D.asA (at_ (D.asL a1) (Int.toNat (0 : Int)))) 2))).length : Int)) :: ((D.str []) :: ([] : List D)))))])
                else none
              else
                if (decide (0 ≤ (0 : Int) ∧ (0 : Int) < (((D.asL a1)).length : Int))) then
                if (decide (0 ≤ (1 : Int) ∧ (1 : Int) < (((D.asL a1)).length : Int))) then
                if ((D.asI (at_ (D.asA a0) 0)) == (8 : Int)) then
                  some (2, [(D.agg ((D.int 0) :: ((D.int (IntKind.wrap .i64 ((D.asI (at_ (D.asA (at_ (D.asL a1) (Int.toNat (0 : Int)))) 1)) + (D.asI (at_ (D.asA (at_ (D.asL a1) (Int.toNat (1 : Int)))) 1))))) :: ((D.str []) :: ([] : List D)))))])
                else
                  if ((D.asI (at_ (D.asA a0) 0)) == (9 : Int)) then
                    some (2, [(D.agg ((D.int 0) :: ((D.int (IntKind.wrap .i64 ((D.asI (at_ (D.asA (at_ (D.asL a1) (Int.toNat (0 : Int)))) 1)) - (D.asI (at_ (D.asA (at_ (D.asL a1) (Int.toNat (1 : Int)))) 1))))) :: ((D.str []) :: ([] : List D)))))])
                  else
                    if ((D.asI (at_ (D.asA a0) 0)) == (10 : Int)) then
                      some (2, [(D.agg ((D.int 0) :: ((D.int (IntKind.wrap .i64 ((D.asI (at_ (D.asA (at_ (D.asL a1) (Int.toNat (0 : Int)))) 1)) * (D.asI (at_ (D.asA (at_ (D.asL a1) (Int.toNat (1 : Int)))) 1))))) :: ((D.str []) :: ([] : List D)))))])
                    else
                      if ((D.asI (at_ (D.asA a0) 0)) == (11 : Int)) then
                        if ((D.asI (at_ (D.asA (at_ (D.asL a1) (Int.toNat (1 : Int)))) 1)) == (0 : Int)) then
                          some (2, [(D.agg ((D.int 0) :: ((D.int 0) :: ((D.str []) :: ([] : List D)))))])
                        else
                          if (!((D.asI (at_ (D.asA (at_ (D.asL a1) (Int.toNat (1 : Int)))) 1)) == (0 : Int))) then
                          some (2, [(D.agg ((D.int 0) :: ((D.int (IntKind.wrap .i64 (Int.tdiv (D.asI (at_ (D.asA (at_ (D.asL a1) (Int.toNat (0 : Int)))) 1)) (D.asI (at_ (D.asA (at_ (D.asL a1) (Int.toNat (1 : Int)))) 1))))) :: ((D.str []) :: ([] : List D)))))])
                          else none
                      else
                        if ((D.asI (at_ (D.asA a0) 0)) == (12 : Int)) then
                          if ((D.asI (at_ (D.asA (at_ (D.asL a1) (Int.toNat (1 : Int)))) 1)) == (0 : Int)) then
                            some (2, [(D.agg ((D.int 0) :: ((D.int 0) :: ((D.str []) :: ([] : List D)))))])
                          else
                            if (!((D.asI (at_ (D.asA (at_ (D.asL a1) (Int.toNat (1 : Int)))) 1)) == (0 : Int))) then
                            some (2, [(D.agg ((D.int 0) :: ((D.int (Int.tmod (D.asI (at_ (D.asA (at_ (D.asL a1) (Int.toNat (0 : Int)))) 1)) (D.asI (at_ (D.asA (at_ (D.asL a1) (Int.toNat (1 : Int)))) 1)))) :: ((D.str []) :: ([] : List D)))))])
                            else none
                        else
                          if ((D.asI (at_ (D.asA a0) 0)) == (13 : Int)) then
                            (R 106 [(D.bool (D.beq (at_ (D.asL a1) (Int.toNat (0 : Int))) (at_ (D.asL a1) (Int.toNat (1 : Int)))))]).bind fun r0 =>
                            some (2, [(at_ r0 0)])
                          else
                            if ((D.asI (at_ (D.asA a0) 0)) == (14 : Int)) then
                              (R 106 [(D.bool (!(D.beq (at_ (D.asL a1) (Int.toNat (0 : Int))) (at_ (D.asL a1) (Int.toNat (1 : Int))))))]).bind fun r0 =>
                              some (2, [(at_ r0 0)])
                            else
                              if ((D.asI (at_ (D.asA a0) 0)) == (15 : Int)) then
                                (R 107 [(at_ (D.asL a1) (Int.toNat (0 : Int))), (at_ (D.asL a1) (Int.toNat (1 : Int)))]).bind fun r0 =>
                                (R 106 [(at_ r0 0)]).bind fun r1 =>
                                some (2, [(at_ r1 0)])
                              else
                                if ((D.asI (at_ (D.asA a0) 0)) == (16 : Int)) then
                                  (R 107 [(at_ (D.asL a1) (Int.toNat (1 : Int))), (at_ (D.asL a1) (Int.toNat (0 : Int)))]).bind fun r0 =>
                                  (R 106 [(D.bool (!(D.asB (at_ r0 0))))]).bind fun r1 =>
                                  some (2, [(at_ r1 0)])
                                else
                                  if ((D.asI (at_ (D.asA a0) 0)) == (17 : Int)) then
                                    (R 106 [(D.bool (((D.asI (at_ (D.asA (at_ (D.asL a1) (Int.toNat (0 : Int)))) 1)) == (1 : Int)) && ((D.asI (at_ (D.asA (at_ (D.asL a1) (Int.toNat (1 : Int)))) 1)) == (1 : Int))))]).bind fun r0 =>
                                    some (2, [(at_ r0 0)])
                                  else
                                    if ((D.asI (at_ (D.asA a0) 0)) == (18 : Int)) then
                                      (R 106 [(D.bool (((D.asI (at_ (D.asA (at_ (D.asL a1) (Int.toNat (0 : Int)))) 1)) == (1 : Int)) || ((D.asI (at_ (D.asA (at_ (D.asL a1) (Int.toNat (1 : Int)))) 1)) == (1 : Int))))]).bind fun r0 =>
                                      some (2, [(at_ r0 0)])
                                    else
                                      if (D.asB (U2.ev (.fits 34359738368) (D.int (((D.asS (at_ (D.asA (at_ (D.asL a1) (Int.toNat (0 : Int)))) 2))).length : Int)) (D.int (((D.asS (at_ (D.asA (at_ (D.asL a1) (Int.toNat (1 : Int)))) 2))).length : Int)))) then
                                      if (decide (0 ≤ (0 : Int) ∧ (0 : Int) ≤ (if (200 : Int) < ((((D.asS (at_ (D.asA (at_ (D.asL a1) (Int.toNat (0 : Int)))) 2)) ++ (D.asS (at_ (D.asA (at_ (D.asL a1) (Int.toNat (1 : Int)))) 2)))).length : Int) then (200 : Int) else ((((D.asS (at_ (D.asA (at_ (D.asL a1) (Int.toNat (0 : Int)))) 2)) ++ (D.asS (at_ (D.asA (at_ (D.asL a1) (Int.toNat (1 : Int)))) 2)))).length : Int)) ∧ (if (200 : Int) < ((((D.asS (at_ (D.asA (at_ (D.asL a1) (Int.toNat (0 : Int)))) 2)) ++ (D.asS (at_ (D.asA (at_ (D.asL a1) (Int.toNat (1 : Int)))) 2)))).length : Int) then (200 : Int) else ((((D.asS (at_ (D.asA (at_ (D.asL a1) (Int.toNat (0 : Int)))) 2)) ++ (D.asS (at_ (D.asA (at_ (D.asL a1) (Int.toNat (1 : Int)))) 2)))).length : Int)) ≤ ((((D.asS (at_ (D.asA (at_ (D.asL a1) (Int.toNat (0 : Int)))) 2)) ++ (D.asS (at_ (D.asA (at_ (D.asL a1) (Int.toNat (1 : Int)))) 2)))).length : Int))) then
                                      some (2, [(D.agg ((D.int 1) :: ((D.int 0) :: ((D.str ((((((D.asS (at_ (D.asA (at_ (D.asL a1) (Int.toNat (0 : Int)))) 2)) ++ (D.asS (at_ (D.asA (at_ (D.asL a1) (Int.toNat (1 : Int)))) 2)))).take (Int.toNat (if (200 : Int) < ((((D.asS (at_ (D.asA (at_ (D.asL a1) (Int.toNat (0 : Int)))) 2)) ++ (D.asS (at_ (D.asA (at_ (D.asL a1) (Int.toNat (1 : Int)))) 2)))).length : Int) then (200 : Int) else ((((D.asS (at_ (D.asA (at_ (D.asL a1) (Int.toNat (0 : Int)))) 2)) ++ (D.asS (at_ (D.asA (at_ (D.asL a1) (Int.toNat (1 : Int)))) 2)))).length : Int))))).drop (Int.toNat 0))) :: ([] : List D)))))])
                                      else none
                                      else none
                else none
                else none : Option Out) := by kernel_rfl
-- errata/errataref16.truth
def h106 : List (Nat × List (Nat × Tm × Nat)) := []
def il106 : IL := (.ite (.var 0) (.out 2 [(.un .mkagg (.bin .cons (.int 2) (.bin .cons (.int 1) (.bin .cons (.str []) .lnil))))]) (.out 2 [(.un .mkagg (.bin .cons (.int 2) (.bin .cons (.int 0) (.bin .cons (.str []) .lnil))))]))
theorem d106 : decompF C ⟨[.bool], [.struct 39], [false]⟩ Tryd.f106 h106 = some il106 := by kernel_rfl
theorem e106 (R : Fns) (a0 : D) : den C.G R il106 [a0] =
    (if (D.asB a0) then
      some (2, [(D.agg ((D.int 2) :: ((D.int 1) :: ((D.str []) :: ([] : List D)))))])
    else
      some (2, [(D.agg ((D.int 2) :: ((D.int 0) :: ((D.str []) :: ([] : List D)))))]) : Option Out) := by kernel_rfl
end Go.Proofs.YtlbckmllpciglaaDoor
