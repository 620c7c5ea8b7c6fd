/- Some functions' texts, and what they mean. Printed by a program of this claim's author. -/
import Derived.Test.YtlbckmllpciglaaDoorSyA
set_option linter.unusedVariables false
set_option linter.unusedSimpArgs false
set_option linter.all false
namespace Go.Proofs.YtlbckmllpciglaaDoor
open Go Sy
set_option maxRecDepth 100000
-- errata/erratalaw27.light
def h7 : List (Nat × List (Nat × Tm × Nat)) := [(15, [(0, ⟨[(8, (.dat (.int .i64) (.var 3))), (2, (.dat (.slice 37) (.var 2))), (1, (.dat (.slice 3) (.var 1))), (3, (.bptr 24 [] 25)), (6, (.dat (.bool) (.bool false)))], [(24, (.box 25 (.dat (.struct 25) (.var 0))))]⟩, 1), (5, ⟨[(2, (.dat (.slice 37) (.var 2))), (1, (.dat (.slice 3) (.var 1))), (3, (.bptr 24 [] 25)), (6, (.dat (.bool) (.bool false)))], [(24, (.box 25 (.dat (.struct 25) (.var 0))))]⟩, 0)]), (5, [(0, ⟨[(7, (.dat (.int .i64) (.var 3))), (1, (.dat (.slice 3) (.var 1))), (3, (.bptr 24 [] 25)), (2, (.dat (.slice 37) (.var 2))), (6, (.dat (.bool) (.bool false)))], [(24, (.box 25 (.dat (.struct 25) (.var 0))))]⟩, 1), (3, ⟨[(1, (.dat (.slice 3) (.var 1))), (3, (.bptr 24 [] 25)), (2, (.dat (.slice 37) (.var 2))), (6, (.dat (.bool) (.bool false)))], [(24, (.box 25 (.dat (.struct 25) (.var 0))))]⟩, 0)])]
def il7 : IL := (.bindc (.loop [(.int 0)] (.ite (.bin .and (.bin .ilt (.var 3) (.un .len (.un (.fld 0) (.var 0)))) (.bin .ilt (.var 3) (.int 101))) (.chk (.bin .inb (.un .len (.un (.fld 0) (.var 0))) (.var 3)) (.ite (.bin .ilt (.int 300) (.un .slen (.un (.fld 6) (.bin .idx (.un (.fld 0) (.var 0)) (.var 3))))) (.out 2 [(.bool false)]) (.out 0 [(.bin (.add .i64) (.var 3) (.int 1))]))) (.out 327686 []))) 327686 0 (.bindc (.loop [(.int 0)] (.ite (.bin .and (.bin .ilt (.var 3) (.un .len (.var 2))) (.bin .ilt (.var 3) (.int 31))) (.chk (.bin .inb (.un .len (.var 2)) (.var 3)) (.call [] 1 22 [(.un (.fld 1) (.bin .idx (.var 2) (.var 3))), (.int 15)] (.ite (.un .not (.var 4)) (.out 2 [(.bool false)]) (.out 0 [(.bin (.add .i64) (.var 3) (.int 1))])))) (.out 983048 []))) 983048 0 (.out 2 [(.bin .and (.bin .and (.bin .and (.bin .ile (.un .len (.un (.fld 0) (.var 0))) (.int 100)) (.bin .ile (.un .len (.un (.fld 1) (.var 0))) (.int 100))) (.bin .ile (.un .len (.var 1)) (.int 20))) (.bin .ile (.un .len (.var 2)) (.int 30)))])))
theorem d7 : decompF C ⟨[.struct 25, .slice 3, .slice 37], [.bool], [false]⟩ Tryd.f7 h7 = some il7 := by kernel_rfl
theorem e7 (R : Fns) (a0 a1 a2 : D) : den C.G R il7 [a0, a1, a2] =
    ((loopL (fun s1 =>
        if ((decide ((D.asI (at_ s1 0)) < (((D.asL (at_ (D.asA a0) 0))).length : Int))) && (decide ((D.asI (at_ s1 0)) < (101 : Int)))) then
          if (decide (0 ≤ (D.asI (at_ s1 0)) ∧ (D.asI (at_ s1 0)) < (((D.asL (at_ (D.asA a0) 0))).length : Int))) then
          if (decide ((300 : Int) < (((D.asS (at_ (D.asA (at_ (D.asL (at_ (D.asA a0) 0)) (Int.toNat (D.asI (at_ s1 0))))) 6))).length : Int))) then
            some (2, [(D.bool false)])
          else
            some (0, [(D.int (IntKind.wrap .i64 ((D.asI (at_ s1 0)) + (1 : Int))))])
          else none
        else
          some (327686, [])) [(D.int 0)]).bind fun o0 =>
    if o0.1 = 327686 then
      (loopL (fun s2 =>
          if ((decide ((D.asI (at_ s2 0)) < (((D.asL a2)).length : Int))) && (decide ((D.asI (at_ s2 0)) < (31 : Int)))) then
            if (decide (0 ≤ (D.asI (at_ s2 0)) ∧ (D.asI (at_ s2 0)) < (((D.asL a2)).length : Int))) then
            (R 22 [(at_ (D.asA (at_ (D.asL a2) (Int.toNat (D.asI (at_ s2 0))))) 1), (D.int 15)]).bind fun r3 =>
            if (!(D.asB (at_ r3 0))) then
              some (2, [(D.bool false)])
            else
              some (0, [(D.int (IntKind.wrap .i64 ((D.asI (at_ s2 0)) + (1 : Int))))])
            else none
          else
            some (983048, [])) [(D.int 0)]).bind fun o1 =>
      if o1.1 = 983048 then
        some (2, [(D.bool ((((decide ((((D.asL (at_ (D.asA a0) 0))).length : Int) ≤ (100 : Int))) && (decide ((((D.asL (at_ (D.asA a0) 1))).length : Int) ≤ (100 : Int)))) && (decide ((((D.asL a1)).length : Int) ≤ (20 : Int)))) && (decide ((((D.asL a2)).length : Int) ≤ (30 : Int)))))])
      else some o1
    else some o0 : Option Out) := by kernel_rfl
-- errata/vm.Work
def h18 : List (Nat × List (Nat × Tm × Nat)) := []
def il18 : IL := (.ite (.bin .or (.bin .ile (.var 1) (.int 0)) (.bin .ieq (.un .len (.un (.fld 0) (.var 0))) (.int 0))) (.out 2 [(.int 0)]) (.chk (.un .not (.bin .ieq (.un .len (.un (.fld 0) (.var 0))) (.int 0))) (.ite (.bin .ilt (.bin (.quo .i64) (.int 1099511627776) (.un .len (.un (.fld 0) (.var 0)))) (.var 1)) (.out 2 [(.int 1099511627776)]) (.out 2 [(.bin (.mul .i64) (.un .len (.un (.fld 0) (.var 0))) (.var 1))]))))
theorem d18 : decompF C ⟨[.struct 25, .int .i64], [.int .i64], [false]⟩ Tryd.f18 h18 = some il18 := by kernel_rfl
theorem e18 (R : Fns) (a0 a1 : D) : den C.G R il18 [a0, a1] =
    (if ((decide ((D.asI a1) ≤ (0 : Int))) || ((((D.asL (at_ (D.asA a0) 0))).length : Int) == (0 : Int))) then
      some (2, [(D.int 0)])
    else
      if (!((((D.asL (at_ (D.asA a0) 0))).length : Int) == (0 : Int))) then
      if (decide ((IntKind.wrap .i64 (Int.tdiv (1099511627776 : Int) (((D.asL (at_ (D.asA a0) 0))).length : Int))) < (D.asI a1))) then
        some (2, [(D.int 1099511627776)])
      else
        some (2, [(D.int (IntKind.wrap .i64 ((((D.asL (at_ (D.asA a0) 0))).length : Int) * (D.asI a1))))])
      else none : Option Out) := by kernel_rfl
-- errata/code.verify
def h26 : List (Nat × List (Nat × Tm × Nat)) := [(33, [(0, ⟨[(66, (.dat (.slice 3) (.var 5))), (67, (.dat (.int .i64) (.un .len (.var 5)))), (68, (.dat (.int .i64) (.var 7))), (4, (.bptr 32 [] 52)), (12, (.bptr 96 [] 75)), (2, (.dat (.slice 3) (.var 2))), (1, (.dat (.slice 3) (.var 1))), (8, (.dat (.int .i64) (.int 0)))], [(32, (.box 52 (.dat (.struct 52) (.var 0)))), (96, (.box 75 (.agg 75 [(.dat (.int .i64) (.un (.fld 0) (.var 0))), (.dat (.int .i64) (.un (.fld 5) (.var 0))), (.dat (.str) (.un (.fld 6) (.var 0))), (.sli 616 0 75)]))), (616, (.arr 75 (.var 8) 0))]⟩, 2), (5, ⟨[(4, (.bptr 32 [] 52)), (12, (.bptr 96 [] 75)), (2, (.dat (.slice 3) (.var 2))), (1, (.dat (.slice 3) (.var 1))), (8, (.dat (.int .i64) (.int 0)))], [(32, (.box 52 (.dat (.struct 52) (.var 0)))), (96, (.box 75 (.agg 75 [(.dat (.int .i64) (.un (.fld 0) (.var 0))), (.dat (.int .i64) (.un (.fld 5) (.var 0))), (.dat (.str) (.un (.fld 6) (.var 0))), (.sli 616 0 75)]))), (616, (.arr 75 (.var 7) 0))]⟩, 1)]), (11, [(0, ⟨[(26, (.sli 192 0 3)), (27, (.dat (.int .i64) (.un .len (.bin .app (.bin .cons (.un (.fld 1) (.var 0)) .lnil) (.var 5))))), (28, (.dat (.int .i64) (.var 6))), (2, (.dat (.slice 3) (.var 2))), (7, (.bptr 56 [] 57)), (9, (.dat (.slice 3) (.var 5))), (1, (.dat (.slice 3) (.var 1))), (4, (.bptr 32 [] 52)), (8, (.dat (.int .i64) (.int 0)))], [(192, (.arr 3 (.bin .app (.bin .cons (.un (.fld 1) (.var 0)) .lnil) (.var 5)) 0)), (56, (.box 57 (.dat (.slice 4) (.var 3)))), (32, (.box 52 (.dat (.struct 52) (.var 0))))]⟩, 1), (3, ⟨[(2, (.dat (.slice 3) (.var 2))), (7, (.bptr 56 [] 57)), (9, (.dat (.slice 3) (.var 5))), (1, (.dat (.slice 3) (.var 1))), (4, (.bptr 32 [] 52)), (8, (.dat (.int .i64) (.int 0)))], [(56, (.box 57 (.dat (.slice 4) (.var 3)))), (32, (.box 52 (.dat (.struct 52) (.var 0))))]⟩, 0)])]
def il26 : IL := (.call [] 1 38 [(.var 0)] (.ite (.un .not (.var 4)) (.out 2 [(.int 2)]) (.call [] 1 39 [(.var 0)] (.chk (.bin (.fits 34359738368) (.un .len (.bin .cons (.un (.fld 1) (.var 0)) .lnil)) (.un .len (.var 5))) (.bindc (.loop [(.int 0)] (.ite (.bin .ilt (.var 6) (.un .len (.bin .app (.bin .cons (.un (.fld 1) (.var 0)) .lnil) (.var 5)))) (.chk (.bin .inb (.un .len (.bin .app (.bin .cons (.un (.fld 1) (.var 0)) .lnil) (.var 5))) (.var 6)) (.ite (.bin .or (.bin .ilt (.bin .idx (.bin .app (.bin .cons (.un (.fld 1) (.var 0)) .lnil) (.var 5)) (.var 6)) (.int 0)) (.bin .ile (.un .len (.var 2)) (.bin .idx (.bin .app (.bin .cons (.un (.fld 1) (.var 0)) .lnil) (.var 5)) (.var 6)))) (.out 2 [(.int 3)]) (.out 0 [(.bin (.add .i64) (.var 6) (.int 1))]))) (.out 720902 []))) 720902 0 (.ite (.bin .and (.bin .ieq (.un (.fld 0) (.var 0)) (.int 3)) (.bin .or (.bin .ilt (.un (.fld 5) (.var 0)) (.int 0)) (.bin .ile (.un .len (.var 1)) (.un (.fld 5) (.var 0))))) (.out 2 [(.int 3)]) (.call [] 1 24 [(.var 5), (.fn 40 .lnil (.bin .cons (.un .mkptr (.var 3)) .lnil))] (.ite (.var 6) (.out 2 [(.int 25)]) (.bindc (.loop [(.int 0), .lnil] (.ite (.bin .ilt (.var 7) (.un .len (.var 5))) (.chk (.bin .inb (.un .len (.var 5)) (.var 7)) (.chk (.bin (.fits 34359738368) (.un .len (.var 8)) (.un .len (.bin .cons (.un .mkagg (.bin .cons (.int 4) (.bin .cons (.bin .idx (.var 5) (.var 7)) (.bin .cons (.str []) (.bin .cons .lnil .lnil))))) .lnil))) (.out 0 [(.bin (.add .i64) (.var 7) (.int 1)), (.bin .snoc (.var 8) (.un .mkagg (.bin .cons (.int 4) (.bin .cons (.bin .idx (.var 5) (.var 7)) (.bin .cons (.str []) (.bin .cons .lnil .lnil))))))]))) (.out 2162696 [(.var 8)]))) 2162696 1 (.call [] 2 41 [.lnil, (.var 1), (.var 2), (.un .mkagg (.bin .cons (.un (.fld 0) (.var 0)) (.bin .cons (.un (.fld 5) (.var 0)) (.bin .cons (.un (.fld 6) (.var 0)) (.bin .cons (.var 7) .lnil)))))] (.chk (.tri .ite (.un .not (.var 9)) (.bool true) (.bin .inb (.un .len (.var 2)) (.un (.fld 1) (.var 0)))) (.ite (.bin .or (.un .not (.var 9)) (.un .not (.bin .ieq (.var 8) (.bin .idx (.var 2) (.un (.fld 1) (.var 0)))))) (.out 2 [(.int 13)]) (.out 2 [(.int 0)])))))))))))))
theorem d26 : decompF C ⟨[.struct 52, .slice 3, .slice 3, .slice 4], [.int .i64], [false]⟩ Tryd.f26 h26 = some il26 := by kernel_rfl
theorem e26 (R : Fns) (a0 a1 a2 a3 : D) : den C.G R il26 [a0, a1, a2, a3] =
    ((R 38 [a0]).bind fun r0 =>
    if (!(D.asB (at_ r0 0))) then
      some (2, [(D.int 2)])
    else
      (R 39 [a0]).bind fun r1 =>
      if (D.asB (U2.ev (.fits 34359738368) (D.int ((((at_ (D.asA a0) 1) :: ([] : List D))).length : Int)) (D.int (((D.asL (at_ r1 0))).length : Int)))) then
      (loopL (fun s3 =>
          if (decide ((D.asI (at_ s3 0)) < (((((at_ (D.asA a0) 1) :: ([] : List D)) ++ (D.asL (at_ r1 0)))).length : Int))) then
            if (decide (0 ≤ (D.asI (at_ s3 0)) ∧ (D.asI (at_ s3 0)) < (((((at_ (D.asA a0) 1) :: ([] : List D)) ++ (D.asL (at_ r1 0)))).length : Int))) then
            if ((decide ((D.asI (at_ (((at_ (D.asA a0) 1) :: ([] : List D)) ++ (D.asL (at_ r1 0))) (Int.toNat (D.asI (at_ s3 0))))) < (0 : Int))) || (decide ((((D.asL a2)).length : Int) ≤ (D.asI (at_ (((at_ (D.asA a0) 1) :: ([] : List D)) ++ (D.asL (at_ r1 0))) (Int.toNat (D.asI (at_ s3 0)))))))) then
              some (2, [(D.int 3)])
            else
              some (0, [(D.int (IntKind.wrap .i64 ((D.asI (at_ s3 0)) + (1 : Int))))])
            else none
          else
            some (720902, [])) [(D.int 0)]).bind fun o2 =>
      if o2.1 = 720902 then
        if (((D.asI (at_ (D.asA a0) 0)) == (3 : Int)) && ((decide ((D.asI (at_ (D.asA a0) 5)) < (0 : Int))) || (decide ((((D.asL a1)).length : Int) ≤ (D.asI (at_ (D.asA a0) 5)))))) then
          some (2, [(D.int 3)])
        else
          (R 24 [(at_ r1 0), (D.fn 40 ([] : List D) ((D.ptr a3) :: ([] : List D)))]).bind fun r3 =>
          if (D.asB (at_ r3 0)) then
            some (2, [(D.int 25)])
          else
            (loopL (fun s5 =>
                if (decide ((D.asI (at_ s5 0)) < (((D.asL (at_ r1 0))).length : Int))) then
                  if (decide (0 ≤ (D.asI (at_ s5 0)) ∧ (D.asI (at_ s5 0)) < (((D.asL (at_ r1 0))).length : Int))) then
                  if (D.asB (U2.ev (.fits 34359738368) (D.int (((D.asL (at_ s5 1))).length : Int)) (D.int ((((D.agg ((D.int 4) :: ((at_ (D.asL (at_ r1 0)) (Int.toNat (D.asI (at_ s5 0)))) :: ((D.str []) :: ((D.list []) :: ([] : List D)))))) :: ([] : List D))).length : Int)))) then
                  some (0, [(D.int (IntKind.wrap .i64 ((D.asI (at_ s5 0)) + (1 : Int)))), (D.list ((D.asL (at_ s5 1)) ++ [(D.agg ((D.int 4) :: ((at_ (D.asL (at_ r1 0)) (Int.toNat (D.asI (at_ s5 0)))) :: ((D.str []) :: ((D.list []) :: ([] : List D))))))]))])
                  else none
                  else none
                else
                  some (2162696, [(at_ s5 1)])) [(D.int 0), (D.list [])]).bind fun o4 =>
            if o4.1 = 2162696 then
              (R 41 [(D.list []), a1, a2, (D.agg ((at_ (D.asA a0) 0) :: ((at_ (D.asA a0) 5) :: ((at_ (D.asA a0) 6) :: ((at_ o4.2 0) :: ([] : List D))))))]).bind fun r5 =>
              if (D.asB (if (!(D.asB (at_ r5 1))) then (D.bool true) else (D.bool (decide (0 ≤ (D.asI (at_ (D.asA a0) 1)) ∧ (D.asI (at_ (D.asA a0) 1)) < (((D.asL a2)).length : Int)))))) then
              if ((!(D.asB (at_ r5 1))) || (!((D.asI (at_ r5 0)) == (D.asI (at_ (D.asL a2) (Int.toNat (D.asI (at_ (D.asA a0) 1)))))))) then
                some (2, [(D.int 13)])
              else
                some (2, [(D.int 0)])
              else none
            else some o4
      else some o2
      else none : Option Out) := by kernel_rfl
-- errata/errataref03.CompareRows
def h29 : List (Nat × List (Nat × Tm × Nat)) := [(5, [(0, ⟨[(5, (.dat (.int .i64) (.var 2))), (1, (.dat (.slice 39) (.var 1))), (0, (.dat (.slice 39) (.var 0))), (4, (.dat (.int .i64) (.int 0)))], []⟩, 1), (3, ⟨[(1, (.dat (.slice 39) (.var 1))), (0, (.dat (.slice 39) (.var 0))), (4, (.dat (.int .i64) (.int 0)))], []⟩, 0)])]
def il29 : IL := (.bindc (.loop [(.int 0)] (.ite (.bin .and (.bin .ilt (.var 2) (.un .len (.var 0))) (.bin .ilt (.var 2) (.un .len (.var 1)))) (.chk (.bin .inb (.un .len (.var 0)) (.var 2)) (.chk (.bin .inb (.un .len (.var 1)) (.var 2)) (.call [] 1 47 [(.bin .idx (.var 0) (.var 2)), (.bin .idx (.var 1) (.var 2))] (.ite (.un .not (.bin .ieq (.var 3) (.int 0))) (.out 2 [(.var 3)]) (.out 0 [(.bin (.add .i64) (.var 2) (.int 1))]))))) (.out 327686 []))) 327686 0 (.ite (.bin .ilt (.un .len (.var 0)) (.un .len (.var 1))) (.out 2 [(.int (-1))]) (.ite (.bin .ilt (.un .len (.var 1)) (.un .len (.var 0))) (.out 2 [(.int 1)]) (.out 2 [(.int 0)]))))
theorem d29 : decompF C ⟨[.slice 39, .slice 39], [.int .i64], [false]⟩ Tryd.f29 h29 = some il29 := by kernel_rfl
theorem e29 (R : Fns) (a0 a1 : D) : den C.G R il29 [a0, a1] =
    ((loopL (fun s1 =>
        if ((decide ((D.asI (at_ s1 0)) < (((D.asL a0)).length : Int))) && (decide ((D.asI (at_ s1 0)) < (((D.asL a1)).length : Int)))) then
          if (decide (0 ≤ (D.asI (at_ s1 0)) ∧ (D.asI (at_ s1 0)) < (((D.asL a0)).length : Int))) then
          if (decide (0 ≤ (D.asI (at_ s1 0)) ∧ (D.asI (at_ s1 0)) < (((D.asL a1)).length : Int))) then
          (R 47 [(at_ (D.asL a0) (Int.toNat (D.asI (at_ s1 0)))), (at_ (D.asL a1) (Int.toNat (D.asI (at_ s1 0))))]).bind fun r2 =>
          if (!((D.asI (at_ r2 0)) == (0 : Int))) then
            some (2, [(at_ r2 0)])
          else
            some (0, [(D.int (IntKind.wrap .i64 ((D.asI (at_ s1 0)) + (1 : Int))))])
          else none
          else none
        else
          some (327686, [])) [(D.int 0)]).bind fun o0 =>
    if o0.1 = 327686 then
      if (decide ((((D.asL a0)).length : Int) < (((D.asL a1)).length : Int))) then
        some (2, [(D.int (-1))])
      else
        if (decide ((((D.asL a1)).length : Int) < (((D.asL a0)).length : Int))) then
          some (2, [(D.int 1)])
        else
          some (2, [(D.int 0)])
    else some o0 : Option Out) := by kernel_rfl
-- slices.IndexFunc[[]int,int]
def h37 : List (Nat × List (Nat × Tm × Nat)) := [(5, [(0, ⟨[(0, (.dat (.slice 3) (.var 0))), (1, (.dat (.func 56) (.var 1))), (7, (.dat (.int .i64) (.un .len (.var 0)))), (8, (.dat (.int .i64) (.var 2))), (4, (.dat (.int .i64) (.int 0)))], []⟩, 1), (3, ⟨[(4, (.dat (.int .i64) (.int 0)))], []⟩, 0)])]
def il37 : IL := (.bindc (.loop [(.int 0)] (.ite (.bin .ilt (.var 2) (.un .len (.var 0))) (.chk (.bin .inb (.un .len (.var 0)) (.var 2)) (.callv [] 1 (.var 1) [(.bin .idx (.var 0) (.var 2))] (.ite (.var 3) (.out 2 [(.var 2)]) (.out 0 [(.bin (.add .i64) (.var 2) (.int 1))])))) (.out 327686 []))) 327686 0 (.out 2 [(.int (-1))]))
theorem d37 : decompF C ⟨[.slice 3, .func 56], [.int .i64], [false]⟩ Tryd.f37 h37 = some il37 := by kernel_rfl
theorem e37 (R : Fns) (a0 a1 : D) : den C.G R il37 [a0, a1] =
    ((loopL (fun s1 =>
        if (decide ((D.asI (at_ s1 0)) < (((D.asL a0)).length : Int))) then
          if (decide (0 ≤ (D.asI (at_ s1 0)) ∧ (D.asI (at_ s1 0)) < (((D.asL a0)).length : Int))) then
          (callD R a1 [(at_ (D.asL a0) (Int.toNat (D.asI (at_ s1 0))))]).bind fun r2 =>
          if (D.asB (at_ r2 0)) then
            some (2, [(at_ s1 0)])
          else
            some (0, [(D.int (IntKind.wrap .i64 ((D.asI (at_ s1 0)) + (1 : Int))))])
          else none
        else
          some (327686, [])) [(D.int 0)]).bind fun o0 =>
    if o0.1 = 327686 then
      some (2, [(D.int (-1))])
    else some o0 : Option Out) := by kernel_rfl
-- errata/code.verify$1
def h40 : List (Nat × List (Nat × Tm × Nat)) := []
def il40 : IL := (.chk (.un .isptr (.var 1)) (.chk (.bin .inb (.un .len (.un .deref (.var 1))) (.var 0)) (.out 2 [(.un .not (.bin .idx (.un .deref (.var 1)) (.var 0)))])))
theorem d40 : decompF C ⟨[.int .i64, .ptr 57], [.bool], [false]⟩ Tryd.f40 h40 = some il40 := by kernel_rfl
theorem e40 (R : Fns) (a0 a1 : D) : den C.G R il40 [a0, a1] =
    (if (D.isP a1) then
    if (decide (0 ≤ (D.asI a0) ∧ (D.asI a0) < (((D.asL (D.asP a1))).length : Int))) then
    some (2, [(D.bool (!(D.asB (at_ (D.asL (D.asP a1)) (Int.toNat (D.asI a0))))))])
    else none
    else none : Option Out) := by kernel_rfl
-- (*errata/vm.machine).source
def h43 : List (Nat × List (Nat × Tm × Nat)) := []
def il43 : IL := (.call [] 1 60 [(.var 0), (.fn 61 .lnil (.bin .cons (.un .mkptr (.var 1)) (.bin .cons (.un .mkptr (.var 0)) .lnil)))] (.out 2 [(.var 2)]))
theorem d43 : decompF C ⟨[.ptr 81, .struct 52], [.slice 39], [true]⟩ Tryd.f43 h43 = some il43 := by kernel_rfl
theorem e43 (R : Fns) (a0 a1 : D) : den C.G R il43 [a0, a1] =
    ((R 60 [a0, (D.fn 61 ([] : List D) ((D.ptr a1) :: ((D.ptr a0) :: ([] : List D))))]).bind fun r0 =>
    some (2, [(at_ r0 0)]) : Option Out) := by kernel_rfl
-- (*errata/vm.machine).two
def h45 : List (Nat × List (Nat × Tm × Nat)) := []
def il45 : IL := (.chk (.un .isptr (.var 0)) (.chk (.bin .inb (.un .len (.un (.fld 1) (.un .deref (.var 0)))) (.un (.fld 2) (.var 1))) (.chk (.un .isptr (.var 0)) (.chk (.bin .inb (.un .len (.un (.fld 1) (.un .deref (.var 0)))) (.un (.fld 3) (.var 1))) (.call [] 1 60 [(.var 0), (.fn 66 .lnil (.bin .cons (.un .mkptr (.var 1)) (.bin .cons (.un .mkptr (.bin .idx (.un (.fld 1) (.un .deref (.var 0))) (.un (.fld 2) (.var 1)))) (.bin .cons (.un .mkptr (.bin .idx (.un (.fld 1) (.un .deref (.var 0))) (.un (.fld 3) (.var 1)))) .lnil))))] (.out 2 [(.var 2)]))))))
theorem d45 : decompF C ⟨[.ptr 81, .struct 52], [.slice 39], [true]⟩ Tryd.f45 h45 = some il45 := by kernel_rfl
theorem e45 (R : Fns) (a0 a1 : D) : den C.G R il45 [a0, a1] =
    (if (D.isP a0) then
    if (decide (0 ≤ (D.asI (at_ (D.asA a1) 2)) ∧ (D.asI (at_ (D.asA a1) 2)) < (((D.asL (at_ (D.asA (D.asP a0)) 1))).length : Int))) then
    if (D.isP a0) then
    if (decide (0 ≤ (D.asI (at_ (D.asA a1) 3)) ∧ (D.asI (at_ (D.asA a1) 3)) < (((D.asL (at_ (D.asA (D.asP a0)) 1))).length : Int))) then
    (R 60 [a0, (D.fn 66 ([] : List D) ((D.ptr a1) :: ((D.ptr (at_ (D.asL (at_ (D.asA (D.asP a0)) 1)) (Int.toNat (D.asI (at_ (D.asA a1) 2))))) :: ((D.ptr (at_ (D.asL (at_ (D.asA (D.asP a0)) 1)) (Int.toNat (D.asI (at_ (D.asA a1) 3))))) :: ([] : List D)))))]).bind fun r0 =>
    some (2, [(at_ r0 0)])
    else none
    else none
    else none
    else none : Option Out) := by kernel_rfl
-- errata/value.Int
def h62 : List (Nat × List (Nat × Tm × Nat)) := []
def il62 : IL := (.out 2 [(.un .mkagg (.bin .cons (.int 0) (.bin .cons (.var 0) (.bin .cons (.str []) .lnil))))])
theorem d62 : decompF C ⟨[.int .i64], [.struct 39], [false]⟩ Tryd.f62 h62 = some il62 := by kernel_rfl
theorem e62 (R : Fns) (a0 : D) : den C.G R il62 [a0] =
    (some (2, [(D.agg ((D.int 0) :: (a0 :: ((D.str []) :: ([] : List D)))))]) : Option Out) := by kernel_rfl
-- errata/errataref25.constant
def h73 : List (Nat × List (Nat × Tm × Nat)) := []
def il73 : IL := (.ite (.bin .ieq (.un (.fld 0) (.var 0)) (.int 1)) (.out 2 [(.un .mkagg (.bin .cons (.int 1) (.bin .cons (.int 0) (.bin .cons (.un (.fld 2) (.var 0)) (.bin .cons .lnil .lnil)))))]) (.ite (.bin .ieq (.un (.fld 0) (.var 0)) (.int 2)) (.out 2 [(.un .mkagg (.bin .cons (.int 2) (.bin .cons (.un (.fld 1) (.var 0)) (.bin .cons (.str []) (.bin .cons .lnil .lnil)))))]) (.out 2 [(.un .mkagg (.bin .cons (.int 0) (.bin .cons (.un (.fld 1) (.var 0)) (.bin .cons (.str []) (.bin .cons .lnil .lnil)))))])))
theorem d73 : decompF C ⟨[.struct 39], [.struct 75], [false]⟩ Tryd.f73 h73 = some il73 := by kernel_rfl
theorem e73 (R : Fns) (a0 : D) : den C.G R il73 [a0] =
    (if ((D.asI (at_ (D.asA a0) 0)) == (1 : Int)) then
      some (2, [(D.agg ((D.int 1) :: ((D.int 0) :: ((at_ (D.asA a0) 2) :: ((D.list []) :: ([] : List D))))))])
    else
      if ((D.asI (at_ (D.asA a0) 0)) == (2 : Int)) then
        some (2, [(D.agg ((D.int 2) :: ((at_ (D.asA a0) 1) :: ((D.str []) :: ((D.list []) :: ([] : List D))))))])
      else
        some (2, [(D.agg ((D.int 0) :: ((at_ (D.asA a0) 1) :: ((D.str []) :: ((D.list []) :: ([] : List D))))))]) : Option Out) := by kernel_rfl
-- errata/errataref16.Eval
def h74 : List (Nat × List (Nat × Tm × Nat)) := []
def il74 : IL := (.call [] 1 88 [(.var 0), (.var 1), (.var 2), (.var 3), .lnil] (.out 2 [(.un (.fld 0) (.var 4))]))
theorem d74 : decompF C ⟨[.slice 107, .struct 75, .int .i64, .slice 39], [.struct 39], [false]⟩ Tryd.f74 h74 = some il74 := by kernel_rfl
theorem e74 (R : Fns) (a0 a1 a2 a3 : D) : den C.G R il74 [a0, a1, a2, a3] =
    ((R 88 [a0, a1, a2, a3, (D.list [])]).bind fun r0 =>
    some (2, [(at_ (D.asA (at_ r0 0)) 0)]) : Option Out) := by kernel_rfl
-- (errata/expr.scope).of
def h78 : List (Nat × List (Nat × Tm × Nat)) := [(7, [(0, ⟨[(12, (.dat (.slice 75) (.un (.fld 3) (.var 1)))), (13, (.dat (.int .i64) (.un .len (.un (.fld 3) (.var 1))))), (14, (.dat (.int .i64) (.var 2))), (2, (.bptr 16 [] 95)), (6, (.sli 232 0 3)), (3, (.bptr 24 [] 75)), (5, (.dat (.bool) (.bool false))), (4, (.dat (.int .i64) (.int 0)))], [(16, (.box 95 (.dat (.struct 95) (.var 0)))), (232, (.arr 3 (.var 3) 0)), (24, (.box 75 (.dat (.struct 75) (.var 1))))]⟩, 2), (3, ⟨[(2, (.bptr 16 [] 95)), (6, (.sli 232 0 3)), (3, (.bptr 24 [] 75)), (5, (.dat (.bool) (.bool false))), (4, (.dat (.int .i64) (.int 0)))], [(16, (.box 95 (.dat (.struct 95) (.var 0)))), (232, (.arr 3 (.var 2) 0)), (24, (.box 75 (.dat (.struct 75) (.var 1))))]⟩, 1)])]
def il78 : IL := (.bindc (.loop [(.int 0), .lnil] (.ite (.bin .ilt (.var 2) (.un .len (.un (.fld 3) (.var 1)))) (.chk (.bin .inb (.un .len (.un (.fld 3) (.var 1))) (.var 2)) (.call [] 2 78 [(.var 0), (.bin .idx (.un (.fld 3) (.var 1)) (.var 2))] (.ite (.un .not (.var 5)) (.out 2 [(.int 0), (.bool false)]) (.chk (.bin (.fits 34359738368) (.un .len (.var 3)) (.un .len (.bin .cons (.var 4) .lnil))) (.out 0 [(.bin (.add .i64) (.var 2) (.int 1)), (.bin .snoc (.var 3) (.var 4))]))))) (.out 458758 [(.var 3)]))) 458758 1 (.ite (.bin .and (.un .not (.bin .seq (.un (.fld 2) (.var 1)) (.str []))) (.un .not (.bin .ieq (.un (.fld 0) (.var 1)) (.int 1)))) (.out 2 [(.int 0), (.bool false)]) (.ite (.bin .and (.bin .ieq (.un .len (.var 2)) (.int 0)) (.un .not (.bin .ieq (.un (.fld 0) (.var 1)) (.int 22)))) (.call [] 2 89 [(.var 0), (.var 1)] (.out 2 [(.var 3), (.var 4)])) (.ite (.bin .ieq (.un (.fld 0) (.var 1)) (.int 22)) (.chk (.tri .ite (.bin .or (.bin .ilt (.un (.fld 1) (.var 1)) (.int 0)) (.bin .ile (.un .len (.un (.fld 0) (.var 0))) (.un (.fld 1) (.var 1)))) (.bool true) (.bin .inb (.un .len (.un (.fld 0) (.var 0))) (.un (.fld 1) (.var 1)))) (.call [((.bin .or (.bin .ilt (.un (.fld 1) (.var 1)) (.int 0)) (.bin .ile (.un .len (.un (.fld 0) (.var 0))) (.un (.fld 1) (.var 1)))), false)] 1 90 [(.un (.fld 1) (.bin .idx (.un (.fld 0) (.var 0)) (.un (.fld 1) (.var 1)))), (.var 2)] (.ite (.bin .or (.bin .or (.bin .ilt (.un (.fld 1) (.var 1)) (.int 0)) (.bin .ile (.un .len (.un (.fld 0) (.var 0))) (.un (.fld 1) (.var 1)))) (.un .not (.var 3))) (.out 2 [(.int 0), (.bool false)]) (.chk (.bin .inb (.un .len (.un (.fld 0) (.var 0))) (.un (.fld 1) (.var 1))) (.out 2 [(.un (.fld 2) (.bin .idx (.un (.fld 0) (.var 0)) (.un (.fld 1) (.var 1)))), (.bool true)]))))) (.call [] 2 91 [(.var 1), (.var 2)] (.out 2 [(.var 3), (.var 4)]))))))
theorem d78 : decompF C ⟨[.struct 95, .struct 75], [.int .i64, .bool], [false, false]⟩ Tryd.f78 h78 = some il78 := by kernel_rfl
theorem e78 (R : Fns) (a0 a1 : D) : den C.G R il78 [a0, a1] =
    ((loopL (fun s1 =>
        if (decide ((D.asI (at_ s1 0)) < (((D.asL (at_ (D.asA a1) 3))).length : Int))) then
          if (decide (0 ≤ (D.asI (at_ s1 0)) ∧ (D.asI (at_ s1 0)) < (((D.asL (at_ (D.asA a1) 3))).length : Int))) then
          (R 78 [a0, (at_ (D.asL (at_ (D.asA a1) 3)) (Int.toNat (D.asI (at_ s1 0))))]).bind fun r2 =>
          if (!(D.asB (at_ r2 1))) then
            some (2, [(D.int 0), (D.bool false)])
          else
            if (D.asB (U2.ev (.fits 34359738368) (D.int (((D.asL (at_ s1 1))).length : Int)) (D.int ((((at_ r2 0) :: ([] : List D))).length : Int)))) then
            some (0, [(D.int (IntKind.wrap .i64 ((D.asI (at_ s1 0)) + (1 : Int)))), (D.list ((D.asL (at_ s1 1)) ++ [(at_ r2 0)]))])
            else none
          else none
        else
          some (458758, [(at_ s1 1)])) [(D.int 0), (D.list [])]).bind fun o0 =>
    if o0.1 = 458758 then
      if ((!((D.asS (at_ (D.asA a1) 2)) == [])) && (!((D.asI (at_ (D.asA a1) 0)) == (1 : Int)))) then
        some (2, [(D.int 0), (D.bool false)])
      else
        if (((((D.asL (at_ o0.2 0))).length : Int) == (0 : Int)) && (!((D.asI (at_ (D.asA a1) 0)) == (22 : Int)))) then
          (R 89 [a0, a1]).bind fun r1 =>
          some (2, [(at_ r1 0), (at_ r1 1)])
        else
          if ((D.asI (at_ (D.asA a1) 0)) == (22 : Int)) then
            if (D.asB (if ((decide ((D.asI (at_ (D.asA a1) 1)) < (0 : Int))) || (decide ((((D.asL (at_ (D.asA a0) 0))).length : Int) ≤ (D.asI (at_ (D.asA a1) 1))))) then (D.bool true) else (D.bool (decide (0 ≤ (D.asI (at_ (D.asA a1) 1)) ∧ (D.asI (at_ (D.asA a1) 1)) < (((D.asL (at_ (D.asA a0) 0))).length : Int)))))) then
            callIf ((((decide ((D.asI (at_ (D.asA a1) 1)) < (0 : Int))) || (decide ((((D.asL (at_ (D.asA a0) 0))).length : Int) ≤ (D.asI (at_ (D.asA a1) 1))))) == false) && true) (R 90 [(at_ (D.asA (at_ (D.asL (at_ (D.asA a0) 0)) (Int.toNat (D.asI (at_ (D.asA a1) 1))))) 1), (at_ o0.2 0)]) fun r1 =>
            if (((decide ((D.asI (at_ (D.asA a1) 1)) < (0 : Int))) || (decide ((((D.asL (at_ (D.asA a0) 0))).length : Int) ≤ (D.asI (at_ (D.asA a1) 1))))) || (!(D.asB (at_ r1 0)))) then
              some (2, [(D.int 0), (D.bool false)])
            else
              if (decide (0 ≤ (D.asI (at_ (D.asA a1) 1)) ∧ (D.asI (at_ (D.asA a1) 1)) < (((D.asL (at_ (D.asA a0) 0))).length : Int))) then
              some (2, [(at_ (D.asA (at_ (D.asL (at_ (D.asA a0) 0)) (Int.toNat (D.asI (at_ (D.asA a1) 1))))) 2), (D.bool true)])
              else none
            else none
          else
            (R 91 [a1, (at_ o0.2 0)]).bind fun r1 =>
            some (2, [(at_ r1 0), (at_ r1 1)])
    else some o0 : Option Out) := by kernel_rfl
-- errata/errataref16.of
def h87 : List (Nat × List (Nat × Tm × Nat)) := []
def il87 : IL := (.call [] 1 96 [(.var 3)] (.ite (.bin .ilt (.int 12) (.var 4)) (.out 2 [(.int 0), (.bool false)]) (.call [] 2 97 [(.var 0), (.var 1), (.var 2), (.var 3)] (.ite (.un .not (.var 6)) (.out 2 [(.int 0), (.bool false)]) (.out 2 [(.var 5), (.bool true)])))))
theorem d87 : decompF C ⟨[.slice 107, .slice 3, .slice 3, .struct 75], [.int .i64, .bool], [false, false]⟩ Tryd.f87 h87 = some il87 := by kernel_rfl
theorem e87 (R : Fns) (a0 a1 a2 a3 : D) : den C.G R il87 [a0, a1, a2, a3] =
    ((R 96 [a3]).bind fun r0 =>
    if (decide ((12 : Int) < (D.asI (at_ r0 0)))) then
      some (2, [(D.int 0), (D.bool false)])
    else
      (R 97 [a0, a1, a2, a3]).bind fun r1 =>
      if (!(D.asB (at_ r1 1))) then
        some (2, [(D.int 0), (D.bool false)])
      else
        some (2, [(at_ r1 0), (D.bool true)]) : Option Out) := by kernel_rfl
-- errata/expr.operation
def h91 : List (Nat × List (Nat × Tm × Nat)) := [(32, [(1, ⟨[(3, (.bptr 24 [] 23)), (12, (.dat (.int .i64) (.un (.fld 0) (.var 0)))), (6, (.fnc 100 [] [(.bptr 24 [] 23)])), (25, (.dat (.bool) (.var 2))), (5, (.dat (.bool) (.bool false))), (4, (.dat (.int .i64) (.int 0)))], [(24, (.box 23 (.dat (.slice 3) (.var 1))))]⟩, 1)]), (42, [(1, ⟨[(12, (.dat (.int .i64) (.un (.fld 0) (.var 0)))), (3, (.bptr 24 [] 23)), (6, (.fnc 100 [] [(.bptr 24 [] 23)])), (33, (.dat (.bool) (.var 3))), (5, (.dat (.bool) (.bool false))), (4, (.dat (.int .i64) (.int 0)))], [(24, (.box 23 (.dat (.slice 3) (.var 1))))]⟩, 1)]), (48, [(1, ⟨[(3, (.bptr 24 [] 23)), (12, (.dat (.int .i64) (.un (.fld 0) (.var 0)))), (6, (.fnc 100 [] [(.bptr 24 [] 23)])), (43, (.dat (.bool) (.var 4))), (5, (.dat (.bool) (.bool false))), (4, (.dat (.int .i64) (.int 0)))], [(24, (.box 23 (.dat (.slice 3) (.var 1))))]⟩, 1)])]
def il91 : IL := (.ite (.un .not (.bin .ieq (.un (.fld 1) (.var 0)) (.int 0))) (.out 2 [(.int 0), (.bool false)]) (.ite (.bin .ieq (.un (.fld 0) (.var 0)) (.int 6)) (.call [] 1 100 [(.int 2), (.int 1), (.un .mkptr (.var 1))] (.out 2 [(.int 2), (.var 2)])) (.ite (.bin .ieq (.un (.fld 0) (.var 0)) (.int 7)) (.call [] 1 100 [(.int 0), (.int 1), (.un .mkptr (.var 1))] (.out 2 [(.int 0), (.var 2)])) (.ite (.bin .ieq (.un (.fld 0) (.var 0)) (.int 20)) (.call [] 1 100 [(.int 1), (.int 1), (.un .mkptr (.var 1))] (.out 2 [(.int 0), (.var 2)])) (.bindc (.ite (.bin .ieq (.un (.fld 0) (.var 0)) (.int 8)) (.out 2097156 [(.bin .ieq (.un (.fld 0) (.var 0)) (.int 8))]) (.ite (.bin .ieq (.un (.fld 0) (.var 0)) (.int 9)) (.out 2097156 [(.bin .ieq (.un (.fld 0) (.var 0)) (.int 9))]) (.ite (.bin .ieq (.un (.fld 0) (.var 0)) (.int 10)) (.out 2097156 [(.bin .ieq (.un (.fld 0) (.var 0)) (.int 10))]) (.ite (.bin .ieq (.un (.fld 0) (.var 0)) (.int 11)) (.out 2097156 [(.bin .ieq (.un (.fld 0) (.var 0)) (.int 11))]) (.out 2097156 [(.bin .ieq (.un (.fld 0) (.var 0)) (.int 12))]))))) 2097156 1 (.ite (.var 2) (.call [] 1 100 [(.int 0), (.int 2), (.un .mkptr (.var 1))] (.out 2 [(.int 0), (.var 3)])) (.bindc (.ite (.bin .ieq (.un (.fld 0) (.var 0)) (.int 13)) (.out 2752516 [(.bin .ieq (.un (.fld 0) (.var 0)) (.int 13))]) (.ite (.bin .ieq (.un (.fld 0) (.var 0)) (.int 14)) (.out 2752516 [(.bin .ieq (.un (.fld 0) (.var 0)) (.int 14))]) (.ite (.bin .ieq (.un (.fld 0) (.var 0)) (.int 15)) (.out 2752516 [(.bin .ieq (.un (.fld 0) (.var 0)) (.int 15))]) (.out 2752516 [(.bin .ieq (.un (.fld 0) (.var 0)) (.int 16))])))) 2752516 1 (.ite (.var 3) (.chk (.bin .inb (.un .len (.var 1)) (.int 0)) (.call [] 1 100 [(.bin .idx (.var 1) (.int 0)), (.int 2), (.un .mkptr (.var 1))] (.out 2 [(.int 2), (.var 4)]))) (.bindc (.ite (.bin .ieq (.un (.fld 0) (.var 0)) (.int 17)) (.out 3145732 [(.bin .ieq (.un (.fld 0) (.var 0)) (.int 17))]) (.out 3145732 [(.bin .ieq (.un (.fld 0) (.var 0)) (.int 18))])) 3145732 1 (.ite (.var 4) (.call [] 1 100 [(.int 2), (.int 2), (.un .mkptr (.var 1))] (.out 2 [(.int 2), (.var 5)])) (.ite (.bin .ieq (.un (.fld 0) (.var 0)) (.int 19)) (.call [] 1 100 [(.int 1), (.int 2), (.un .mkptr (.var 1))] (.out 2 [(.int 1), (.var 5)])) (.ite (.bin .ieq (.un (.fld 0) (.var 0)) (.int 21)) (.chk (.bin .inb (.un .len (.var 1)) (.bin (.sub .i64) (.un .len (.var 1)) (.int 1))) (.chk (.tri .ite (.bin .ieq (.un .len (.var 1)) (.int 3)) (.bin .inb (.un .len (.var 1)) (.int 0)) (.bool true)) (.chk (.tri .ite (.bin .and (.bin .ieq (.un .len (.var 1)) (.int 3)) (.bin .ieq (.bin .idx (.var 1) (.int 0)) (.int 2))) (.bin .inb (.un .len (.var 1)) (.int 1)) (.bool true)) (.chk (.tri .ite (.bin .and (.bin .ieq (.un .len (.var 1)) (.int 3)) (.bin .ieq (.bin .idx (.var 1) (.int 0)) (.int 2))) (.bin .inb (.un .len (.var 1)) (.int 2)) (.bool true)) (.out 2 [(.bin .idx (.var 1) (.bin (.sub .i64) (.un .len (.var 1)) (.int 1))), (.bin .and (.bin .and (.bin .ieq (.un .len (.var 1)) (.int 3)) (.bin .ieq (.bin .idx (.var 1) (.int 0)) (.int 2))) (.bin .ieq (.bin .idx (.var 1) (.int 1)) (.bin .idx (.var 1) (.int 2))))]))))) (.out 2 [(.int 0), (.bool false)])))))))))))))
theorem d91 : decompF C ⟨[.struct 75, .slice 3], [.int .i64, .bool], [false, false]⟩ Tryd.f91 h91 = some il91 := by kernel_rfl
theorem e91 (R : Fns) (a0 a1 : D) : den C.G R il91 [a0, a1] =
    (if (!((D.asI (at_ (D.asA a0) 1)) == (0 : Int))) then
      some (2, [(D.int 0), (D.bool false)])
    else
      if ((D.asI (at_ (D.asA a0) 0)) == (6 : Int)) then
        (R 100 [(D.int 2), (D.int 1), (D.ptr a1)]).bind fun r0 =>
        some (2, [(D.int 2), (at_ r0 0)])
      else
        if ((D.asI (at_ (D.asA a0) 0)) == (7 : Int)) then
          (R 100 [(D.int 0), (D.int 1), (D.ptr a1)]).bind fun r0 =>
          some (2, [(D.int 0), (at_ r0 0)])
        else
          if ((D.asI (at_ (D.asA a0) 0)) == (20 : Int)) then
            (R 100 [(D.int 1), (D.int 1), (D.ptr a1)]).bind fun r0 =>
            some (2, [(D.int 0), (at_ r0 0)])
          else
            (if ((D.asI (at_ (D.asA a0) 0)) == (8 : Int)) then
                some (2097156, [(D.bool ((D.asI (at_ (D.asA a0) 0)) == (8 : Int)))])
              else
                if ((D.asI (at_ (D.asA a0) 0)) == (9 : Int)) then
                  some (2097156, [(D.bool ((D.asI (at_ (D.asA a0) 0)) == (9 : Int)))])
                else
                  if ((D.asI (at_ (D.asA a0) 0)) == (10 : Int)) then
                    some (2097156, [(D.bool ((D.asI (at_ (D.asA a0) 0)) == (10 : Int)))])
                  else
                    if ((D.asI (at_ (D.asA a0) 0)) == (11 : Int)) then
                      some (2097156, [(D.bool ((D.asI (at_ (D.asA a0) 0)) == (11 : Int)))])
                    else
                      some (2097156, [(D.bool ((D.asI (at_ (D.asA a0) 0)) == (12 : Int)))])).bind fun o0 =>
            if o0.1 = 2097156 then
              if (D.asB (at_ o0.2 0)) then
                (R 100 [(D.int 0), (D.int 2), (D.ptr a1)]).bind fun r1 =>
                some (2, [(D.int 0), (at_ r1 0)])
              else
                (if ((D.asI (at_ (D.asA a0) 0)) == (13 : Int)) then
                    some (2752516, [(D.bool ((D.asI (at_ (D.asA a0) 0)) == (13 : Int)))])
                  else
                    if ((D.asI (at_ (D.asA a0) 0)) == (14 : Int)) then
                      some (2752516, [(D.bool ((D.asI (at_ (D.asA a0) 0)) == (14 : Int)))])
                    else
                      if ((D.asI (at_ (D.asA a0) 0)) == (15 : Int)) then
                        some (2752516, [(D.bool ((D.asI (at_ (D.asA a0) 0)) == (15 : Int)))])
                      else
                        some (2752516, [(D.bool ((D.asI (at_ (D.asA a0) 0)) == (16 : Int)))])).bind fun o1 =>
                if o1.1 = 2752516 then
                  if (D.asB (at_ o1.2 0)) then
                    if (decide (0 ≤ (0 : Int) ∧ (0 : Int) < (((D.asL a1)).length : Int))) then
                    (R 100 [(at_ (D.asL a1) (Int.toNat (0 : Int))), (D.int 2), (D.ptr a1)]).bind fun r2 =>
                    some (2, [(D.int 2), (at_ r2 0)])
                    else none
                  else
                    (if ((D.asI (at_ (D.asA a0) 0)) == (17 : Int)) then
                        some (3145732, [(D.bool ((D.asI (at_ (D.asA a0) 0)) == (17 : Int)))])
                      else
                        some (3145732, [(D.bool ((D.asI (at_ (D.asA a0) 0)) == (18 : Int)))])).bind fun o2 =>
                    if o2.1 = 3145732 then
                      if (D.asB (at_ o2.2 0)) then
                        (R 100 [(D.int 2), (D.int 2), (D.ptr a1)]).bind fun r3 =>
                        some (2, [(D.int 2), (at_ r3 0)])
                      else
                        if ((D.asI (at_ (D.asA a0) 0)) == (19 : Int)) then
                          (R 100 [(D.int 1), (D.int 2), (D.ptr a1)]).bind fun r3 =>
                          some (2, [(D.int 1), (at_ r3 0)])
                        else
                          if ((D.asI (at_ (D.asA a0) 0)) == (21 : Int)) then
                            if (decide (0 ≤ (IntKind.wrap .i64 ((((D.asL a1)).length : Int) - (1 : Int))) ∧ (IntKind.wrap .i64 ((((D.asL a1)).length : Int) - (1 : Int))) < (((D.asL a1)).length : Int))) then
                            if (D.asB (if ((((D.asL a1)).length : Int) == (3 : Int)) then (D.bool (decide (0 ≤ (0 : Int) ∧ (0 : Int) < (((D.asL a1)).length : Int)))) else (D.bool true))) then
                            if (D.asB (if (((((D.asL a1)).length : Int) == (3 : Int)) && ((D.asI (at_ (D.asL a1) (Int.toNat (0 : Int)))) == (2 : Int))) then (D.bool (decide (0 ≤ (1 : Int) ∧ (1 : Int) < (((D.asL a1)).length : Int)))) else (D.bool true))) then
                            if (D.asB (if (((((D.asL a1)).length : Int) == (3 : Int)) && ((D.asI (at_ (D.asL a1) (Int.toNat (0 : Int)))) == (2 : Int))) then (D.bool (decide (0 ≤ (2 : Int) ∧ (2 : Int) < (((D.asL a1)).length : Int)))) else (D.bool true))) then
                            some (2, [(at_ (D.asL a1) (Int.toNat (IntKind.wrap .i64 ((((D.asL a1)).length : Int) - (1 : Int))))), (D.bool ((((((D.asL a1)).length : Int) == (3 : Int)) && ((D.asI (at_ (D.asL a1) (Int.toNat (0 : Int)))) == (2 : Int))) && ((D.asI (at_ (D.asL a1) (Int.toNat (1 : Int)))) == (D.asI (at_ (D.asL a1) (Int.toNat (2 : Int)))))))])
                            else none
                            else none
                            else none
                            else none
                          else
                            some (2, [(D.int 0), (D.bool false)])
                    else some o2
                else some o1
            else some o0 : Option Out) := by kernel_rfl
-- errata/errataref16.Levels
def h96 : List (Nat × List (Nat × Tm × Nat)) := [(7, [(0, ⟨[(1, (.bptr 8 [] 75)), (4, (.dat (.int .i64) (.var 1))), (3, (.dat (.int .i64) (.var 2))), (2, (.dat (.int .i64) (.int 0)))], [(8, (.box 75 (.dat (.struct 75) (.var 0))))]⟩, 2), (3, ⟨[(3, (.dat (.int .i64) (.var 1))), (2, (.dat (.int .i64) (.int 0)))], []⟩, 1)])]
def il96 : IL := (.bindc (.loop [(.int 0), (.int 0)] (.ite (.bin .ilt (.var 1) (.un .len (.un (.fld 3) (.var 0)))) (.chk (.bin .inb (.un .len (.un (.fld 3) (.var 0))) (.var 1)) (.call [] 1 96 [(.bin .idx (.un (.fld 3) (.var 0)) (.var 1))] (.out 0 [(.bin (.add .i64) (.var 1) (.int 1)), (.bin .imax (.var 2) (.var 3))]))) (.out 458758 [(.var 2)]))) 458758 1 (.out 2 [(.bin (.add .i64) (.var 1) (.int 1))]))
theorem d96 : decompF C ⟨[.struct 75], [.int .i64], [false]⟩ Tryd.f96 h96 = some il96 := by kernel_rfl
theorem e96 (R : Fns) (a0 : D) : den C.G R il96 [a0] =
    ((loopL (fun s1 =>
        if (decide ((D.asI (at_ s1 0)) < (((D.asL (at_ (D.asA a0) 3))).length : Int))) then
          if (decide (0 ≤ (D.asI (at_ s1 0)) ∧ (D.asI (at_ s1 0)) < (((D.asL (at_ (D.asA a0) 3))).length : Int))) then
          (R 96 [(at_ (D.asL (at_ (D.asA a0) 3)) (Int.toNat (D.asI (at_ s1 0))))]).bind fun r2 =>
          some (0, [(D.int (IntKind.wrap .i64 ((D.asI (at_ s1 0)) + (1 : Int)))), (D.int (if (D.asI (at_ r2 0)) > (D.asI (at_ s1 1)) then (D.asI (at_ r2 0)) else (D.asI (at_ s1 1))))])
          else none
        else
          some (458758, [(at_ s1 1)])) [(D.int 0), (D.int 0)]).bind fun o0 =>
    if o0.1 = 458758 then
      some (2, [(D.int (IntKind.wrap .i64 ((D.asI (at_ o0.2 0)) + (1 : Int))))])
    else some o0 : Option Out) := by kernel_rfl
-- errata/errataref16.inner
def h97 : List (Nat × List (Nat × Tm × Nat)) := [(84, [(1, ⟨[(97, (.dat (.int .i64) (.un (.fld 0) (.var 3)))), (124, (.dat (.bool) (.var 6))), (10, (.sli 304 0 3)), (9, (.dat (.bool) (.bool false))), (8, (.dat (.int .i64) (.int 0)))], [(304, (.arr 3 (.var 4) 0))]⟩, 1)]), (94, [(1, ⟨[(97, (.dat (.int .i64) (.un (.fld 0) (.var 3)))), (140, (.dat (.bool) (.var 7))), (10, (.sli 304 0 3)), (9, (.dat (.bool) (.bool false))), (8, (.dat (.int .i64) (.int 0)))], [(304, (.arr 3 (.var 4) 0))]⟩, 1)]), (100, [(1, ⟨[(97, (.dat (.int .i64) (.un (.fld 0) (.var 3)))), (152, (.dat (.bool) (.var 8))), (10, (.sli 304 0 3)), (9, (.dat (.bool) (.bool false))), (8, (.dat (.int .i64) (.int 0)))], [(304, (.arr 3 (.var 4) 0))]⟩, 1)]), (7, [(0, ⟨[(11, (.dat (.int .i64) (.var 4))), (2, (.dat (.slice 3) (.var 2))), (1, (.dat (.slice 3) (.var 1))), (10, (.sli 304 0 3)), (0, (.dat (.slice 107) (.var 0))), (7, (.bptr 56 [] 75)), (9, (.dat (.bool) (.bool false))), (8, (.dat (.int .i64) (.int 0)))], [(304, (.arr 3 (.var 5) 0)), (56, (.box 75 (.dat (.struct 75) (.var 3))))]⟩, 2), (3, ⟨[(2, (.dat (.slice 3) (.var 2))), (1, (.dat (.slice 3) (.var 1))), (10, (.sli 304 0 3)), (0, (.dat (.slice 107) (.var 0))), (7, (.bptr 56 [] 75)), (9, (.dat (.bool) (.bool false))), (8, (.dat (.int .i64) (.int 0)))], [(304, (.arr 3 (.var 4) 0)), (56, (.box 75 (.dat (.struct 75) (.var 3))))]⟩, 1)])]
def il97 : IL := (.bindc (.loop [(.int 0), .lnil] (.ite (.bin .ilt (.var 4) (.un .len (.un (.fld 3) (.var 3)))) (.chk (.bin .inb (.un .len (.un (.fld 3) (.var 3))) (.var 4)) (.call [] 2 97 [(.var 0), (.var 1), (.var 2), (.bin .idx (.un (.fld 3) (.var 3)) (.var 4))] (.ite (.un .not (.var 7)) (.out 2 [(.int 0), (.bool false)]) (.chk (.bin (.fits 34359738368) (.un .len (.var 5)) (.un .len (.bin .cons (.var 6) .lnil))) (.out 0 [(.bin (.add .i64) (.var 4) (.int 1)), (.bin .snoc (.var 5) (.var 6))]))))) (.out 458758 [(.var 5)]))) 458758 1 (.ite (.bin .and (.un .not (.bin .seq (.un (.fld 2) (.var 3)) (.str []))) (.un .not (.bin .ieq (.un (.fld 0) (.var 3)) (.int 1)))) (.out 2 [(.int 0), (.bool false)]) (.ite (.bin .ieq (.un (.fld 0) (.var 3)) (.int 22)) (.call [] 2 103 [(.var 0), (.un (.fld 1) (.var 3)), (.var 4)] (.out 2 [(.var 5), (.var 6)])) (.call [] 1 104 [(.un (.fld 0) (.var 3))] (.ite (.un .not (.bin .ieq (.var 5) (.un .len (.var 4)))) (.out 2 [(.int 0), (.bool false)]) (.ite (.bin .ieq (.un (.fld 0) (.var 3)) (.int 0)) (.out 2 [(.int 0), (.bool true)]) (.ite (.bin .ieq (.un (.fld 0) (.var 3)) (.int 2)) (.out 2 [(.int 2), (.bin .or (.bin .ieq (.un (.fld 1) (.var 3)) (.int 0)) (.bin .ieq (.un (.fld 1) (.var 3)) (.int 1)))]) (.ite (.bin .ieq (.un (.fld 0) (.var 3)) (.int 3)) (.call [] 2 105 [(.var 1), (.un (.fld 1) (.var 3))] (.out 2 [(.var 6), (.var 7)])) (.ite (.bin .ieq (.un (.fld 0) (.var 3)) (.int 4)) (.call [] 2 105 [(.var 2), (.un (.fld 1) (.var 3))] (.out 2 [(.var 6), (.var 7)])) (.ite (.un .not (.bin .ieq (.un (.fld 1) (.var 3)) (.int 0))) (.out 2 [(.int 0), (.bool false)]) (.ite (.bin .ieq (.un (.fld 0) (.var 3)) (.int 1)) (.out 2 [(.int 1), (.bin .ile (.un .slen (.un (.fld 2) (.var 3))) (.int 200))]) (.ite (.bin .ieq (.un (.fld 0) (.var 3)) (.int 5)) (.out 2 [(.int 0), (.bool true)]) (.ite (.bin .ieq (.un (.fld 0) (.var 3)) (.int 6)) (.chk (.bin .inb (.un .len (.var 4)) (.int 0)) (.out 2 [(.int 2), (.bin .ieq (.bin .idx (.var 4) (.int 0)) (.int 2))])) (.ite (.bin .ieq (.un (.fld 0) (.var 3)) (.int 7)) (.chk (.bin .inb (.un .len (.var 4)) (.int 0)) (.out 2 [(.int 0), (.bin .ieq (.bin .idx (.var 4) (.int 0)) (.int 0))])) (.ite (.bin .ieq (.un (.fld 0) (.var 3)) (.int 20)) (.chk (.bin .inb (.un .len (.var 4)) (.int 0)) (.out 2 [(.int 0), (.bin .ieq (.bin .idx (.var 4) (.int 0)) (.int 1))])) (.bindc (.ite (.bin .ieq (.un (.fld 0) (.var 3)) (.int 8)) (.out 5505028 [(.bin .ieq (.un (.fld 0) (.var 3)) (.int 8))]) (.ite (.bin .ieq (.un (.fld 0) (.var 3)) (.int 9)) (.out 5505028 [(.bin .ieq (.un (.fld 0) (.var 3)) (.int 9))]) (.ite (.bin .ieq (.un (.fld 0) (.var 3)) (.int 10)) (.out 5505028 [(.bin .ieq (.un (.fld 0) (.var 3)) (.int 10))]) (.ite (.bin .ieq (.un (.fld 0) (.var 3)) (.int 11)) (.out 5505028 [(.bin .ieq (.un (.fld 0) (.var 3)) (.int 11))]) (.out 5505028 [(.bin .ieq (.un (.fld 0) (.var 3)) (.int 12))]))))) 5505028 1 (.ite (.var 6) (.chk (.bin .inb (.un .len (.var 4)) (.int 0)) (.chk (.tri .ite (.bin .ieq (.bin .idx (.var 4) (.int 0)) (.int 0)) (.bin .inb (.un .len (.var 4)) (.int 1)) (.bool true)) (.out 2 [(.int 0), (.bin .and (.bin .ieq (.bin .idx (.var 4) (.int 0)) (.int 0)) (.bin .ieq (.bin .idx (.var 4) (.int 1)) (.int 0)))]))) (.bindc (.ite (.bin .ieq (.un (.fld 0) (.var 3)) (.int 13)) (.out 6160388 [(.bin .ieq (.un (.fld 0) (.var 3)) (.int 13))]) (.ite (.bin .ieq (.un (.fld 0) (.var 3)) (.int 14)) (.out 6160388 [(.bin .ieq (.un (.fld 0) (.var 3)) (.int 14))]) (.ite (.bin .ieq (.un (.fld 0) (.var 3)) (.int 15)) (.out 6160388 [(.bin .ieq (.un (.fld 0) (.var 3)) (.int 15))]) (.out 6160388 [(.bin .ieq (.un (.fld 0) (.var 3)) (.int 16))])))) 6160388 1 (.ite (.var 7) (.chk (.bin .inb (.un .len (.var 4)) (.int 0)) (.chk (.bin .inb (.un .len (.var 4)) (.int 1)) (.out 2 [(.int 2), (.bin .ieq (.bin .idx (.var 4) (.int 0)) (.bin .idx (.var 4) (.int 1)))]))) (.bindc (.ite (.bin .ieq (.un (.fld 0) (.var 3)) (.int 17)) (.out 6553604 [(.bin .ieq (.un (.fld 0) (.var 3)) (.int 17))]) (.out 6553604 [(.bin .ieq (.un (.fld 0) (.var 3)) (.int 18))])) 6553604 1 (.ite (.var 8) (.chk (.bin .inb (.un .len (.var 4)) (.int 0)) (.chk (.tri .ite (.bin .ieq (.bin .idx (.var 4) (.int 0)) (.int 2)) (.bin .inb (.un .len (.var 4)) (.int 1)) (.bool true)) (.out 2 [(.int 2), (.bin .and (.bin .ieq (.bin .idx (.var 4) (.int 0)) (.int 2)) (.bin .ieq (.bin .idx (.var 4) (.int 1)) (.int 2)))]))) (.ite (.bin .ieq (.un (.fld 0) (.var 3)) (.int 19)) (.chk (.bin .inb (.un .len (.var 4)) (.int 0)) (.chk (.tri .ite (.bin .ieq (.bin .idx (.var 4) (.int 0)) (.int 1)) (.bin .inb (.un .len (.var 4)) (.int 1)) (.bool true)) (.out 2 [(.int 1), (.bin .and (.bin .ieq (.bin .idx (.var 4) (.int 0)) (.int 1)) (.bin .ieq (.bin .idx (.var 4) (.int 1)) (.int 1)))]))) (.chk (.bin .inb (.un .len (.var 4)) (.int 1)) (.chk (.bin .inb (.un .len (.var 4)) (.int 0)) (.chk (.tri .ite (.bin .ieq (.bin .idx (.var 4) (.int 0)) (.int 2)) (.bin .inb (.un .len (.var 4)) (.int 1)) (.bool true)) (.chk (.tri .ite (.bin .ieq (.bin .idx (.var 4) (.int 0)) (.int 2)) (.bin .inb (.un .len (.var 4)) (.int 2)) (.bool true)) (.out 2 [(.bin .idx (.var 4) (.int 1)), (.bin .and (.bin .ieq (.bin .idx (.var 4) (.int 0)) (.int 2)) (.bin .ieq (.bin .idx (.var 4) (.int 1)) (.bin .idx (.var 4) (.int 2))))])))))))))))))))))))))))))))
theorem d97 : decompF C ⟨[.slice 107, .slice 3, .slice 3, .struct 75], [.int .i64, .bool], [false, false]⟩ Tryd.f97 h97 = some il97 := by kernel_rfl
theorem e97 (R : Fns) (a0 a1 a2 a3 : D) : den C.G R il97 [a0, a1, a2, a3] =
    ((loopL (fun s1 =>
        if (decide ((D.asI (at_ s1 0)) < (((D.asL (at_ (D.asA a3) 3))).length : Int))) then
          if (decide (0 ≤ (D.asI (at_ s1 0)) ∧ (D.asI (at_ s1 0)) < (((D.asL (at_ (D.asA a3) 3))).length : Int))) then
          (R 97 [a0, a1, a2, (at_ (D.asL (at_ (D.asA a3) 3)) (Int.toNat (D.asI (at_ s1 0))))]).bind fun r2 =>
          if (!(D.asB (at_ r2 1))) then
            some (2, [(D.int 0), (D.bool false)])
          else
            if (D.asB (U2.ev (.fits 34359738368) (D.int (((D.asL (at_ s1 1))).length : Int)) (D.int ((((at_ r2 0) :: ([] : List D))).length : Int)))) then
            some (0, [(D.int (IntKind.wrap .i64 ((D.asI (at_ s1 0)) + (1 : Int)))), (D.list ((D.asL (at_ s1 1)) ++ [(at_ r2 0)]))])
            else none
          else none
        else
          some (458758, [(at_ s1 1)])) [(D.int 0), (D.list [])]).bind fun o0 =>
    if o0.1 = 458758 then
      if ((!((D.asS (at_ (D.asA a3) 2)) == [])) && (!((D.asI (at_ (D.asA a3) 0)) == (1 : Int)))) then
        some (2, [(D.int 0), (D.bool false)])
      else
        if ((D.asI (at_ (D.asA a3) 0)) == (22 : Int)) then
          (R 103 [a0, (at_ (D.asA a3) 1), (at_ o0.2 0)]).bind fun r1 =>
          some (2, [(at_ r1 0), (at_ r1 1)])
        else
          (R 104 [(at_ (D.asA a3) 0)]).bind fun r1 =>
          if (!((D.asI (at_ r1 0)) == (((D.asL (at_ o0.2 0))).length : Int))) then
            some (2, [(D.int 0), (D.bool false)])
          else
            if ((D.asI (at_ (D.asA a3) 0)) == (0 : Int)) then
              some (2, [(D.int 0), (D.bool true)])
            else
              if ((D.asI (at_ (D.asA a3) 0)) == (2 : Int)) then
                some (2, [(D.int 2), (D.bool (((D.asI (at_ (D.asA a3) 1)) == (0 : Int)) || ((D.asI (at_ (D.asA a3) 1)) == (1 : Int))))])
              else
                if ((D.asI (at_ (D.asA a3) 0)) == (3 : Int)) then
                  (R 105 [a1, (at_ (D.asA a3) 1)]).bind fun r2 =>
                  some (2, [(at_ r2 0), (at_ r2 1)])
                else
                  if ((D.asI (at_ (D.asA a3) 0)) == (4 : Int)) then
                    (R 105 [a2, (at_ (D.asA a3) 1)]).bind fun r2 =>
                    some (2, [(at_ r2 0), (at_ r2 1)])
                  else
                    if (!((D.asI (at_ (D.asA a3) 1)) == (0 : Int))) then
                      some (2, [(D.int 0), (D.bool false)])
                    else
                      if ((D.asI (at_ (D.asA a3) 0)) == (1 : Int)) then
                        some (2, [(D.int 1), (D.bool (decide ((((D.asS (at_ (D.asA a3) 2))).length : Int) ≤ (200 : Int))))])
                      else
                        if ((D.asI (at_ (D.asA a3) 0)) == (5 : Int)) then
                          some (2, [(D.int 0), (D.bool true)])
                        else
                          if ((D.asI (at_ (D.asA a3) 0)) == (6 : Int)) then
                            if (decide (0 ≤ (0 : Int) ∧ (0 : Int) < (((D.asL (at_ o0.2 0))).length : Int))) then
                            some (2, [(D.int 2), (D.bool ((D.asI (at_ (D.asL (at_ o0.2 0)) (Int.toNat (0 : Int)))) == (2 : Int)))])
                            else none
                          else
                            if ((D.asI (at_ (D.asA a3) 0)) == (7 : Int)) then
                              if (decide (0 ≤ (0 : Int) ∧ (0 : Int) < (((D.asL (at_ o0.2 0))).length : Int))) then
                              some (2, [(D.int 0), (D.bool ((D.asI (at_ (D.asL (at_ o0.2 0)) (Int.toNat (0 : Int)))) == (0 : Int)))])
                              else none
                            else
                              if ((D.asI (at_ (D.asA a3) 0)) == (20 : Int)) then
                                if (decide (0 ≤ (0 : Int) ∧ (0 : Int) < (((D.asL (at_ o0.2 0))).length : Int))) then
                                some (2, [(D.int 0), (D.bool ((D.asI (at_ (D.asL (at_ o0.2 0)) (Int.toNat (0 : Int)))) == (1 : Int)))])
                                else none
                              else
                                (if ((D.asI (at_ (D.asA a3) 0)) == (8 : Int)) then
                                    some (5505028, [(D.bool ((D.asI (at_ (D.asA a3) 0)) == (8 : Int)))])
                                  else
                                    if ((D.asI (at_ (D.asA a3) 0)) == (9 : Int)) then
                                      some (5505028, [(D.bool ((D.asI (at_ (D.asA a3) 0)) == (9 : Int)))])
                                    else
                                      if ((D.asI (at_ (D.asA a3) 0)) == (10 : Int)) then
                                        some (5505028, [(D.bool ((D.asI (at_ (D.asA a3) 0)) == (10 : Int)))])
                                      else
                                        if ((D.asI (at_ (D.asA a3) 0)) == (11 : Int)) then
                                          some (5505028, [(D.bool ((D.asI (at_ (D.asA a3) 0)) == (11 : Int)))])
                                        else
                                          some (5505028, [(D.bool ((D.asI (at_ (D.asA a3) 0)) == (12 : Int)))])).bind fun o2 =>
                                if o2.1 = 5505028 then
                                  if (D.asB (at_ o2.2 0)) then
                                    if (decide (0 ≤ (0 : Int) ∧ (0 : Int) < (((D.asL (at_ o0.2 0))).length : Int))) then
                                    if (D.asB (if ((D.asI (at_ (D.asL (at_ o0.2 0)) (Int.toNat (0 : Int)))) == (0 : Int)) then (D.bool (decide (0 ≤ (1 : Int) ∧ (1 : Int) < (((D.asL (at_ o0.2 0))).length : Int)))) else (D.bool true))) then
                                    some (2, [(D.int 0), (D.bool (((D.asI (at_ (D.asL (at_ o0.2 0)) (Int.toNat (0 : Int)))) == (0 : Int)) && ((D.asI (at_ (D.asL (at_ o0.2 0)) (Int.toNat (1 : Int)))) == (0 : Int))))])
                                    else none
                                    else none
                                  else
                                    (if ((D.asI (at_ (D.asA a3) 0)) == (13 : Int)) then
                                        some (6160388, [(D.bool ((D.asI (at_ (D.asA a3) 0)) == (13 : Int)))])
                                      else
                                        if ((D.asI (at_ (D.asA a3) 0)) == (14 : Int)) then
                                          some (6160388, [(D.bool ((D.asI (at_ (D.asA a3) 0)) == (14 : Int)))])
                                        else
                                          if ((D.asI (at_ (D.asA a3) 0)) == (15 : Int)) then
                                            some (6160388, [(D.bool ((D.asI (at_ (D.asA a3) 0)) == (15 : Int)))])
                                          else
                                            some (6160388, [(D.bool ((D.asI (at_ (D.asA a3) 0)) == (16 : Int)))])).bind fun o3 =>
                                    if o3.1 = 6160388 then
                                      if (D.asB (at_ o3.2 0)) then
                                        if (decide (0 ≤ (0 : Int) ∧ (0 : Int) < (((D.asL (at_ o0.2 0))).length : Int))) then
                                        if (decide (0 ≤ (1 : Int) ∧ (1 : Int) < (((D.asL (at_ o0.2 0))).length : Int))) then
                                        some (2, [(D.int 2), (D.bool ((D.asI (at_ (D.asL (at_ o0.2 0)) (Int.toNat (0 : Int)))) == (D.asI (at_ (D.asL (at_ o0.2 0)) (Int.toNat (1 : Int))))))])
                                        else none
                                        else none
                                      else
                                        (if ((D.asI (at_ (D.asA a3) 0)) == (17 : Int)) then
                                            some (6553604, [(D.bool ((D.asI (at_ (D.asA a3) 0)) == (17 : Int)))])
                                          else
                                            some (6553604, [(D.bool ((D.asI (at_ (D.asA a3) 0)) == (18 : Int)))])).bind fun o4 =>
                                        if o4.1 = 6553604 then
                                          if (D.asB (at_ o4.2 0)) then
                                            if (decide (0 ≤ (0 : Int) ∧ (0 : Int) < (((D.asL (at_ o0.2 0))).length : Int))) then
                                            if (D.asB (if ((D.asI (at_ (D.asL (at_ o0.2 0)) (Int.toNat (0 : Int)))) == (2 : Int)) then (D.bool (decide (0 ≤ (1 : Int) ∧ (1 : Int) < (((D.asL (at_ o0.2 0))).length : Int)))) else (D.bool true))) then
                                            some (2, [(D.int 2), (D.bool (((D.asI (at_ (D.asL (at_ o0.2 0)) (Int.toNat (0 : Int)))) == (2 : Int)) && ((D.asI (at_ (D.asL (at_ o0.2 0)) (Int.toNat (1 : Int)))) == (2 : Int))))])
                                            else none
                                            else none
                                          else
                                            if ((D.asI (at_ (D.asA a3) 0)) == (19 : Int)) then
                                              if (decide (0 ≤ (0 : Int) ∧ (0 : Int) < (((D.asL (at_ o0.2 0))).length : Int))) then
                                              if (D.asB (if ((D.asI (at_ (D.asL (at_ o0.2 0)) (Int.toNat (0 : Int)))) == (1 : Int)) then (D.bool (decide (0 ≤ (1 : Int) ∧ (1 : Int) < (((D.asL (at_ o0.2 0))).length : Int)))) else (D.bool true))) then
                                              some (2, [(D.int 1), (D.bool (((D.asI (at_ (D.asL (at_ o0.2 0)) (Int.toNat (0 : Int)))) == (1 : Int)) && ((D.asI (at_ (D.asL (at_ o0.2 0)) (Int.toNat (1 : Int)))) == (1 : Int))))])
                                              else none
                                              else none
                                            else
                                              if (decide (0 ≤ (1 : Int) ∧ (1 : Int) < (((D.asL (at_ o0.2 0))).length : Int))) then
                                              if (decide (0 ≤ (0 : Int) ∧ (0 : Int) < (((D.asL (at_ o0.2 0))).length : Int))) then
                                              if (D.asB (if ((D.asI (at_ (D.asL (at_ o0.2 0)) (Int.toNat (0 : Int)))) == (2 : Int)) then (D.bool (decide (0 ≤ (1 : Int) ∧ (1 : Int) < (((D.asL (at_ o0.2 0))).length : Int)))) else (D.bool true))) then
                                              if (D.asB (if ((D.asI (at_ (D.asL (at_ o0.2 0)) (Int.toNat (0 : Int)))) == (2 : Int)) then (D.bool (decide (0 ≤ (2 : Int) ∧ (2 : Int) < (((D.asL (at_ o0.2 0))).length : Int)))) else (D.bool true))) then
                                              some (2, [(at_ (D.asL (at_ o0.2 0)) (Int.toNat (1 : Int))), (D.bool (((D.asI (at_ (D.asL (at_ o0.2 0)) (Int.toNat (0 : Int)))) == (2 : Int)) && ((D.asI (at_ (D.asL (at_ o0.2 0)) (Int.toNat (1 : Int)))) == (D.asI (at_ (D.asL (at_ o0.2 0)) (Int.toNat (2 : Int)))))))])
                                              else none
                                              else none
                                              else none
                                              else none
                                        else some o4
                                    else some o3
                                else some o2
    else some o0 : Option Out) := by kernel_rfl
-- errata/errataref16.call
def h103 : List (Nat × List (Nat × Tm × Nat)) := [(15, [(0, ⟨[(2, (.dat (.slice 3) (.var 2))), (9, (.dat (.int .i64) (.var 3))), (8, (.bptr 64 [] 107)), (7, (.dat (.bool) (.bool false))), (6, (.dat (.int .i64) (.int 0)))], [(64, (.box 107 (.dat (.struct 107) (.bin .idx (.var 0) (.var 1)))))]⟩, 1), (3, ⟨[(8, (.bptr 64 [] 107)), (7, (.dat (.bool) (.bool false))), (6, (.dat (.int .i64) (.int 0)))], [(64, (.box 107 (.dat (.struct 107) (.bin .idx (.var 0) (.var 1)))))]⟩, 0)])]
def il103 : IL := (.ite (.bin .or (.bin .ilt (.var 1) (.int 0)) (.bin .ile (.un .len (.var 0)) (.var 1))) (.out 2 [(.int 0), (.bool false)]) (.chk (.bin .inb (.un .len (.var 0)) (.var 1)) (.ite (.un .not (.bin .ieq (.un .len (.un (.fld 1) (.bin .idx (.var 0) (.var 1)))) (.un .len (.var 2)))) (.out 2 [(.int 0), (.bool false)]) (.bindc (.loop [(.int 0)] (.ite (.bin .ilt (.var 3) (.un .len (.var 2))) (.chk (.bin .inb (.un .len (.var 2)) (.var 3)) (.chk (.bin .inb (.un .len (.un (.fld 1) (.bin .idx (.var 0) (.var 1)))) (.var 3)) (.ite (.un .not (.bin .ieq (.bin .idx (.var 2) (.var 3)) (.bin .idx (.un (.fld 1) (.bin .idx (.var 0) (.var 1))) (.var 3)))) (.out 2 [(.int 0), (.bool false)]) (.out 0 [(.bin (.add .i64) (.var 3) (.int 1))])))) (.out 983046 []))) 983046 0 (.out 2 [(.un (.fld 2) (.bin .idx (.var 0) (.var 1))), (.bool true)])))))
theorem d103 : decompF C ⟨[.slice 107, .int .i64, .slice 3], [.int .i64, .bool], [false, false]⟩ Tryd.f103 h103 = some il103 := by kernel_rfl
theorem e103 (R : Fns) (a0 a1 a2 : D) : den C.G R il103 [a0, a1, a2] =
    (if ((decide ((D.asI a1) < (0 : Int))) || (decide ((((D.asL a0)).length : Int) ≤ (D.asI a1)))) then
      some (2, [(D.int 0), (D.bool false)])
    else
      if (decide (0 ≤ (D.asI a1) ∧ (D.asI a1) < (((D.asL a0)).length : Int))) then
      if (!((((D.asL (at_ (D.asA (at_ (D.asL a0) (Int.toNat (D.asI a1)))) 1))).length : Int) == (((D.asL a2)).length : Int))) then
        some (2, [(D.int 0), (D.bool false)])
      else
        (loopL (fun s1 =>
            if (decide ((D.asI (at_ s1 0)) < (((D.asL a2)).length : Int))) then
              if (decide (0 ≤ (D.asI (at_ s1 0)) ∧ (D.asI (at_ s1 0)) < (((D.asL a2)).length : Int))) then
              if (decide (0 ≤ (D.asI (at_ s1 0)) ∧ (D.asI (at_ s1 0)) < (((D.asL (at_ (D.asA (at_ (D.asL a0) (Int.toNat (D.asI a1)))) 1))).length : Int))) then
              if (!((D.asI (at_ (D.asL a2) (Int.toNat (D.asI (at_ s1 0))))) == (D.asI (at_ (D.asL (at_ (D.asA (at_ (D.asL a0) (Int.toNat (D.asI a1)))) 1)) (Int.toNat (D.asI (at_ s1 0))))))) then
                some (2, [(D.int 0), (D.bool false)])
              else
                some (0, [(D.int (IntKind.wrap .i64 ((D.asI (at_ s1 0)) + (1 : Int))))])
              else none
              else none
            else
              some (983046, [])) [(D.int 0)]).bind fun o0 =>
        if o0.1 = 983046 then
          some (2, [(at_ (D.asA (at_ (D.asL a0) (Int.toNat (D.asI a1)))) 2), (D.bool true)])
        else some o0
      else none : Option Out) := by kernel_rfl
end Go.Proofs.YtlbckmllpciglaaDoor
