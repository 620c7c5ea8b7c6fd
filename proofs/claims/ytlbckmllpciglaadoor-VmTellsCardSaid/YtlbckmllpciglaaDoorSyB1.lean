/- Some functions' texts, and what they mean. Printed by a program of this claim's author. -/
import Derived.Test.YtlbckmllpciglaaDoorSyA
set_option linter.unusedVariables false
set_option linter.unusedSimpArgs false
set_option linter.all false
namespace Go.Proofs.YtlbckmllpciglaaDoor
open Go Sy
set_option maxRecDepth 100000
-- errata/erratalaw27.small
def h6 : List (Nat × List (Nat × Tm × Nat)) := []
def il6 : IL := (.call [] 1 21 [(.int 1), (.int 2)] (.call [] 1 21 [(.int 5), (.int 4)] (.chk (.bin (.fits 34359738368) (.un .len .lnil) (.un .len (.bin .cons (.un .mkagg (.bin .cons (.int 3) (.bin .cons (.int 0) (.bin .cons (.int 0) (.bin .cons (.int 0) (.bin .cons (.int 0) (.bin .cons (.int 0) (.bin .cons (.str []) .lnil)))))))) (.bin .cons (.un .mkagg (.bin .cons (.int 3) (.bin .cons (.int 1) (.bin .cons (.int 0) (.bin .cons (.int 0) (.bin .cons (.int 0) (.bin .cons (.int 1) (.bin .cons (.str []) .lnil)))))))) .lnil)))) (.chk (.bin (.fits 34359738368) (.un .len (.bin .app .lnil (.bin .cons (.un .mkagg (.bin .cons (.int 3) (.bin .cons (.int 0) (.bin .cons (.int 0) (.bin .cons (.int 0) (.bin .cons (.int 0) (.bin .cons (.int 0) (.bin .cons (.str []) .lnil)))))))) (.bin .cons (.un .mkagg (.bin .cons (.int 3) (.bin .cons (.int 1) (.bin .cons (.int 0) (.bin .cons (.int 0) (.bin .cons (.int 0) (.bin .cons (.int 1) (.bin .cons (.str []) .lnil)))))))) .lnil)))) (.un .len (.bin .cons (.un .mkagg (.bin .cons (.int 8) (.bin .cons (.int 2) (.bin .cons (.int 0) (.bin .cons (.int 1) (.bin .cons (.int 0) (.bin .cons (.int 0) (.bin .cons (.str []) .lnil)))))))) .lnil))) (.chk (.bin (.fits 34359738368) (.un .len .lnil) (.un .len (.bin .cons (.un .mkagg (.bin .cons (.int 3) (.bin .cons (.int 0) (.bin .cons (.int 0) (.bin .cons (.int 0) (.bin .cons (.int 0) (.bin .cons (.int 0) (.bin .cons (.str []) .lnil)))))))) (.bin .cons (.un .mkagg (.bin .cons (.int 3) (.bin .cons (.int 1) (.bin .cons (.int 0) (.bin .cons (.int 0) (.bin .cons (.int 0) (.bin .cons (.int 1) (.bin .cons (.str []) .lnil)))))))) .lnil)))) (.chk (.bin (.fits 34359738368) (.un .len (.bin .app .lnil (.bin .cons (.un .mkagg (.bin .cons (.int 3) (.bin .cons (.int 0) (.bin .cons (.int 0) (.bin .cons (.int 0) (.bin .cons (.int 0) (.bin .cons (.int 0) (.bin .cons (.str []) .lnil)))))))) (.bin .cons (.un .mkagg (.bin .cons (.int 3) (.bin .cons (.int 1) (.bin .cons (.int 0) (.bin .cons (.int 0) (.bin .cons (.int 0) (.bin .cons (.int 1) (.bin .cons (.str []) .lnil)))))))) .lnil)))) (.un .len (.bin .cons (.un .mkagg (.bin .cons (.int 15) (.bin .cons (.int 2) (.bin .cons (.int 0) (.bin .cons (.int 1) (.bin .cons (.int 0) (.bin .cons (.int 0) (.bin .cons (.str []) .lnil)))))))) .lnil))) (.call [] 2 10 [(.un .mkagg (.bin .cons (.bin .snoc (.bin .app .lnil (.bin .cons (.un .mkagg (.bin .cons (.int 3) (.bin .cons (.int 0) (.bin .cons (.int 0) (.bin .cons (.int 0) (.bin .cons (.int 0) (.bin .cons (.int 0) (.bin .cons (.str []) .lnil)))))))) (.bin .cons (.un .mkagg (.bin .cons (.int 3) (.bin .cons (.int 1) (.bin .cons (.int 0) (.bin .cons (.int 0) (.bin .cons (.int 0) (.bin .cons (.int 1) (.bin .cons (.str []) .lnil)))))))) .lnil))) (.un .mkagg (.bin .cons (.int 8) (.bin .cons (.int 2) (.bin .cons (.int 0) (.bin .cons (.int 1) (.bin .cons (.int 0) (.bin .cons (.int 0) (.bin .cons (.str []) .lnil))))))))) (.bin .cons (.bin .cons (.int 0) (.bin .cons (.int 0) (.bin .cons (.int 0) .lnil))) (.bin .cons (.int 2) .lnil)))), (.bin .cons (.int 0) (.bin .cons (.int 0) .lnil)), (.bin .cons (.var 0) (.bin .cons (.var 1) .lnil))] (.call [] 2 13 [(.un .mkagg (.bin .cons (.bin .snoc (.bin .app .lnil (.bin .cons (.un .mkagg (.bin .cons (.int 3) (.bin .cons (.int 0) (.bin .cons (.int 0) (.bin .cons (.int 0) (.bin .cons (.int 0) (.bin .cons (.int 0) (.bin .cons (.str []) .lnil)))))))) (.bin .cons (.un .mkagg (.bin .cons (.int 3) (.bin .cons (.int 1) (.bin .cons (.int 0) (.bin .cons (.int 0) (.bin .cons (.int 0) (.bin .cons (.int 1) (.bin .cons (.str []) .lnil)))))))) .lnil))) (.un .mkagg (.bin .cons (.int 15) (.bin .cons (.int 2) (.bin .cons (.int 0) (.bin .cons (.int 1) (.bin .cons (.int 0) (.bin .cons (.int 0) (.bin .cons (.str []) .lnil))))))))) (.bin .cons (.bin .cons (.int 0) (.bin .cons (.int 0) (.bin .cons (.int 2) .lnil))) (.bin .cons (.int 2) .lnil)))), (.bin .cons (.int 0) (.bin .cons (.int 0) .lnil)), (.bin .cons (.var 0) (.bin .cons (.var 1) .lnil))] (.call [((.bin .and (.bin .ieq (.var 3) (.int 0)) (.bin .ieq (.var 5) (.int 0))), true)] 1 11 [(.var 2), (.bin .cons (.un .mkagg (.bin .cons (.int 0) (.bin .cons (.int 3) (.bin .cons (.str []) .lnil)))) (.bin .cons (.un .mkagg (.bin .cons (.int 0) (.bin .cons (.int 9) (.bin .cons (.str []) .lnil)))) .lnil))] (.chk (.tri .ite (.bin .and (.bin .and (.bin .and (.bin .ieq (.var 3) (.int 0)) (.bin .ieq (.var 5) (.int 0))) (.var 6)) (.bin .ieq (.un .len (.var 4)) (.int 1))) (.tri .cut (.int 0) (.int 1) (.un .len (.bin .cons (.var 0) (.bin .cons (.var 1) .lnil)))) (.bool true)) (.call [((.bin .and (.bin .and (.bin .and (.bin .ieq (.var 3) (.int 0)) (.bin .ieq (.var 5) (.int 0))) (.var 6)) (.bin .ieq (.un .len (.var 4)) (.int 1))), true)] 1 15 [(.var 4), (.bin .drop (.bin .take (.bin .cons (.var 0) (.bin .cons (.var 1) .lnil)) (.int 1)) (.int 0))] (.call [((.bin .and (.bin .and (.bin .and (.bin .and (.bin .ieq (.var 3) (.int 0)) (.bin .ieq (.var 5) (.int 0))) (.var 6)) (.bin .ieq (.un .len (.var 4)) (.int 1))) (.var 7)), true)] 1 18 [(.un .mkagg (.bin .cons (.bin .snoc (.bin .app .lnil (.bin .cons (.un .mkagg (.bin .cons (.int 3) (.bin .cons (.int 0) (.bin .cons (.int 0) (.bin .cons (.int 0) (.bin .cons (.int 0) (.bin .cons (.int 0) (.bin .cons (.str []) .lnil)))))))) (.bin .cons (.un .mkagg (.bin .cons (.int 3) (.bin .cons (.int 1) (.bin .cons (.int 0) (.bin .cons (.int 0) (.bin .cons (.int 0) (.bin .cons (.int 1) (.bin .cons (.str []) .lnil)))))))) .lnil))) (.un .mkagg (.bin .cons (.int 8) (.bin .cons (.int 2) (.bin .cons (.int 0) (.bin .cons (.int 1) (.bin .cons (.int 0) (.bin .cons (.int 0) (.bin .cons (.str []) .lnil))))))))) (.bin .cons (.bin .cons (.int 0) (.bin .cons (.int 0) (.bin .cons (.int 0) .lnil))) (.bin .cons (.int 2) .lnil)))), (.int 5)] (.out 2 [(.bin .and (.bin .and (.bin .and (.bin .and (.bin .and (.bin .ieq (.var 3) (.int 0)) (.bin .ieq (.var 5) (.int 0))) (.var 6)) (.bin .ieq (.un .len (.var 4)) (.int 1))) (.var 7)) (.bin .ieq (.var 8) (.int 15)))])))))))))))))
theorem d6 : decompF C ⟨[], [.bool], [false]⟩ Tryd.f6 h6 = some il6 := by kernel_rfl
theorem e6 (R : Fns) : den C.G R il6 [] =
    ((R 21 [(D.int 1), (D.int 2)]).bind fun r0 =>
    (R 21 [(D.int 5), (D.int 4)]).bind fun r1 =>
    if (D.asB (U2.ev (.fits 34359738368) (D.int ((([] : List D)).length : Int)) (D.int ((((D.agg ((D.int 3) :: ((D.int 0) :: ((D.int 0) :: ((D.int 0) :: ((D.int 0) :: ((D.int 0) :: ((D.str []) :: ([] : List D))))))))) :: ((D.agg ((D.int 3) :: ((D.int 1) :: ((D.int 0) :: ((D.int 0) :: ((D.int 0) :: ((D.int 1) :: ((D.str []) :: ([] : List D))))))))) :: ([] : List D)))).length : Int)))) then
    if (D.asB (U2.ev (.fits 34359738368) (D.int (((([] : List D) ++ ((D.agg ((D.int 3) :: ((D.int 0) :: ((D.int 0) :: ((D.int 0) :: ((D.int 0) :: ((D.int 0) :: ((D.str []) :: ([] : List D))))))))) :: ((D.agg ((D.int 3) :: ((D.int 1) :: ((D.int 0) :: ((D.int 0) :: ((D.int 0) :: ((D.int 1) :: ((D.str []) :: ([] : List D))))))))) :: ([] : List D))))).length : Int)) (D.int ((((D.agg ((D.int 8) :: ((D.int 2) :: ((D.int 0) :: ((D.int 1) :: ((D.int 0) :: ((D.int 0) :: ((D.str []) :: ([] : List D))))))))) :: ([] : List D))).length : Int)))) then
    if (D.asB (U2.ev (.fits 34359738368) (D.int ((([] : List D)).length : Int)) (D.int ((((D.agg ((D.int 3) :: ((D.int 0) :: ((D.int 0) :: ((D.int 0) :: ((D.int 0) :: ((D.int 0) :: ((D.str []) :: ([] : List D))))))))) :: ((D.agg ((D.int 3) :: ((D.int 1) :: ((D.int 0) :: ((D.int 0) :: ((D.int 0) :: ((D.int 1) :: ((D.str []) :: ([] : List D))))))))) :: ([] : List D)))).length : Int)))) then
    if (D.asB (U2.ev (.fits 34359738368) (D.int (((([] : List D) ++ ((D.agg ((D.int 3) :: ((D.int 0) :: ((D.int 0) :: ((D.int 0) :: ((D.int 0) :: ((D.int 0) :: ((D.str []) :: ([] : List D))))))))) :: ((D.agg ((D.int 3) :: ((D.int 1) :: ((D.int 0) :: ((D.int 0) :: ((D.int 0) :: ((D.int 1) :: ((D.str []) :: ([] : List D))))))))) :: ([] : List D))))).length : Int)) (D.int ((((D.agg ((D.int 15) :: ((D.int 2) :: ((D.int 0) :: ((D.int 1) :: ((D.int 0) :: ((D.int 0) :: ((D.str []) :: ([] : List D))))))))) :: ([] : List D))).length : Int)))) then
    (R 10 [(D.agg ((D.list ((([] : List D) ++ ((D.agg ((D.int 3) :: ((D.int 0) :: ((D.int 0) :: ((D.int 0) :: ((D.int 0) :: ((D.int 0) :: ((D.str []) :: ([] : List D))))))))) :: ((D.agg ((D.int 3) :: ((D.int 1) :: ((D.int 0) :: ((D.int 0) :: ((D.int 0) :: ((D.int 1) :: ((D.str []) :: ([] : List D))))))))) :: ([] : List D)))) ++ [(D.agg ((D.int 8) :: ((D.int 2) :: ((D.int 0) :: ((D.int 1) :: ((D.int 0) :: ((D.int 0) :: ((D.str []) :: ([] : List D)))))))))])) :: ((D.list ((D.int 0) :: ((D.int 0) :: ((D.int 0) :: ([] : List D))))) :: ((D.int 2) :: ([] : List D))))), (D.list ((D.int 0) :: ((D.int 0) :: ([] : List D)))), (D.list ((at_ r0 0) :: ((at_ r1 0) :: ([] : List D))))]).bind fun r2 =>
    (R 13 [(D.agg ((D.list ((([] : List D) ++ ((D.agg ((D.int 3) :: ((D.int 0) :: ((D.int 0) :: ((D.int 0) :: ((D.int 0) :: ((D.int 0) :: ((D.str []) :: ([] : List D))))))))) :: ((D.agg ((D.int 3) :: ((D.int 1) :: ((D.int 0) :: ((D.int 0) :: ((D.int 0) :: ((D.int 1) :: ((D.str []) :: ([] : List D))))))))) :: ([] : List D)))) ++ [(D.agg ((D.int 15) :: ((D.int 2) :: ((D.int 0) :: ((D.int 1) :: ((D.int 0) :: ((D.int 0) :: ((D.str []) :: ([] : List D)))))))))])) :: ((D.list ((D.int 0) :: ((D.int 0) :: ((D.int 2) :: ([] : List D))))) :: ((D.int 2) :: ([] : List D))))), (D.list ((D.int 0) :: ((D.int 0) :: ([] : List D)))), (D.list ((at_ r0 0) :: ((at_ r1 0) :: ([] : List D))))]).bind fun r3 =>
    callIf (((((D.asI (at_ r2 1)) == (0 : Int)) && ((D.asI (at_ r3 1)) == (0 : Int))) == true) && true) (R 11 [(at_ r2 0), (D.list ((D.agg ((D.int 0) :: ((D.int 3) :: ((D.str []) :: ([] : List D))))) :: ((D.agg ((D.int 0) :: ((D.int 9) :: ((D.str []) :: ([] : List D))))) :: ([] : List D))))]) fun r4 =>
    if (D.asB (if (((((D.asI (at_ r2 1)) == (0 : Int)) && ((D.asI (at_ r3 1)) == (0 : Int))) && (D.asB (at_ r4 0))) && ((((D.asL (at_ r3 0))).length : Int) == (1 : Int))) then (D.bool (decide (0 ≤ (0 : Int) ∧ (0 : Int) ≤ (1 : Int) ∧ (1 : Int) ≤ ((((at_ r0 0) :: ((at_ r1 0) :: ([] : List D)))).length : Int)))) else (D.bool true))) then
    callIf (((((((D.asI (at_ r2 1)) == (0 : Int)) && ((D.asI (at_ r3 1)) == (0 : Int))) && (D.asB (at_ r4 0))) && ((((D.asL (at_ r3 0))).length : Int) == (1 : Int))) == true) && true) (R 15 [(at_ r3 0), (D.list ((((((at_ r0 0) :: ((at_ r1 0) :: ([] : List D)))).take (Int.toNat (1 : Int)))).drop (Int.toNat (0 : Int))))]) fun r5 =>
    callIf ((((((((D.asI (at_ r2 1)) == (0 : Int)) && ((D.asI (at_ r3 1)) == (0 : Int))) && (D.asB (at_ r4 0))) && ((((D.asL (at_ r3 0))).length : Int) == (1 : Int))) && (D.asB (at_ r5 0))) == true) && true) (R 18 [(D.agg ((D.list ((([] : List D) ++ ((D.agg ((D.int 3) :: ((D.int 0) :: ((D.int 0) :: ((D.int 0) :: ((D.int 0) :: ((D.int 0) :: ((D.str []) :: ([] : List D))))))))) :: ((D.agg ((D.int 3) :: ((D.int 1) :: ((D.int 0) :: ((D.int 0) :: ((D.int 0) :: ((D.int 1) :: ((D.str []) :: ([] : List D))))))))) :: ([] : List D)))) ++ [(D.agg ((D.int 8) :: ((D.int 2) :: ((D.int 0) :: ((D.int 1) :: ((D.int 0) :: ((D.int 0) :: ((D.str []) :: ([] : List D)))))))))])) :: ((D.list ((D.int 0) :: ((D.int 0) :: ((D.int 0) :: ([] : List D))))) :: ((D.int 2) :: ([] : List D))))), (D.int 5)]) fun r6 =>
    some (2, [(D.bool (((((((D.asI (at_ r2 1)) == (0 : Int)) && ((D.asI (at_ r3 1)) == (0 : Int))) && (D.asB (at_ r4 0))) && ((((D.asL (at_ r3 0))).length : Int) == (1 : Int))) && (D.asB (at_ r5 0))) && ((D.asI (at_ r6 0)) == (15 : Int))))])
    else none
    else none
    else none
    else none
    else none : Option Out) := by kernel_rfl
-- errata/vm.Select
def h13 : List (Nat × List (Nat × Tm × Nat)) := [(23, [(0, ⟨[(10, (.sli 280 0 39)), (41, (.dat (.slice 37) (.var 2))), (42, (.dat (.int .i64) (.un .len (.var 2)))), (43, (.dat (.int .i64) (.var 7))), (12, (.sli 488 0 37)), (7, (.dat (.int .i64) (.int 0))), (6, (.nils 37))], [(280, (.arr 39 (.var 5) 0)), (488, (.arr 37 (.var 8) 0))]⟩, 2), (3, ⟨[(12, (.sli 488 0 37)), (7, (.dat (.int .i64) (.int 0))), (6, (.nils 37))], [(488, (.arr 37 (.var 7) 0))]⟩, 1)]), (32, [(1, ⟨[(53, (.dat (.bool) (.bin .ieq (.un (.fld 1) (.bin .idx (.var 5) (.var 7))) (.int 1)))), (52, (.dat (.int .i64) (.un (.fld 1) (.bin .idx (.var 5) (.var 7))))), (49, (.dat (.int .i64) (.var 7))), (48, (.sli 280 0 39)), (13, (.dat (.int .i64) (.var 7))), (10, (.sli 280 0 39)), (47, (.dat (.struct 37) (.bin .idx (.var 2) (.var 7)))), (45, (.dat (.int .i64) (.var 7))), (46, (.dat (.ptr 37) (.un .mkptr (.bin .idx (.var 2) (.var 7))))), (41, (.dat (.slice 37) (.var 2))), (44, (.dat (.bool) (.bin .ilt (.var 7) (.un .len (.var 2))))), (42, (.dat (.int .i64) (.un .len (.var 2)))), (43, (.dat (.int .i64) (.var 7))), (12, (.sli 488 0 37)), (7, (.dat (.int .i64) (.int 0))), (6, (.nils 37))], [(280, (.arr 39 (.var 5) 0)), (488, (.arr 37 (.var 9) 0))]⟩, 1)])]
def il13 : IL := (.call [] 2 9 [(.var 0), (.var 1)] (.ite (.un .not (.bin .ieq (.var 4) (.int 0))) (.out 2 [.lnil, (.var 4)]) (.chk (.bin .inb (.un .len (.un (.fld 1) (.var 0))) (.un (.fld 2) (.var 0))) (.ite (.un .not (.bin .ieq (.bin .idx (.un (.fld 1) (.var 0)) (.un (.fld 2) (.var 0))) (.int 2))) (.out 2 [.lnil, (.int 13)]) (.call [] 2 10 [(.var 0), (.var 1), (.var 2)] (.ite (.un .not (.bin .ieq (.var 6) (.int 0))) (.out 2 [.lnil, (.var 6)]) (.bindc (.loop [(.int 0), .lnil] (.ite (.bin .ilt (.var 7) (.un .len (.var 2))) (.bindc (.chk (.bin .inb (.un .len (.var 2)) (.var 7)) (.chk (.bin .inb (.un .len (.var 5)) (.var 7)) (.ite (.bin .ieq (.un (.fld 1) (.bin .idx (.var 5) (.var 7))) (.int 1)) (.call [] 1 32 [(.un (.fld 1) (.bin .idx (.var 2) (.var 7)))] (.chk (.bin (.fits 34359738368) (.un .len (.var 8)) (.un .len (.bin .cons (.un .mkagg (.bin .cons (.un (.fld 0) (.bin .idx (.var 2) (.var 7))) (.bin .cons (.var 9) (.bin .cons (.un (.fld 2) (.bin .idx (.var 2) (.var 7))) .lnil)))) .lnil))) (.out 2097156 [(.bin .snoc (.var 8) (.un .mkagg (.bin .cons (.un (.fld 0) (.bin .idx (.var 2) (.var 7))) (.bin .cons (.var 9) (.bin .cons (.un (.fld 2) (.bin .idx (.var 2) (.var 7))) .lnil)))))]))) (.out 2097156 [(.var 8)])))) 2097156 1 (.out 0 [(.bin (.add .i64) (.var 7) (.int 1)), (.var 9)])) (.out 1507334 [(.var 8)]))) 1507334 1 (.out 2 [(.var 7), (.int 0)]))))))))
theorem d13 : decompF C ⟨[.struct 25, .slice 3, .slice 37], [.slice 37, .int .i64], [true, false]⟩ Tryd.f13 h13 = some il13 := by kernel_rfl
theorem e13 (R : Fns) (a0 a1 a2 : D) : den C.G R il13 [a0, a1, a2] =
    ((R 9 [a0, a1]).bind fun r0 =>
    if (!((D.asI (at_ r0 1)) == (0 : Int))) then
      some (2, [(D.list []), (at_ r0 1)])
    else
      if (decide (0 ≤ (D.asI (at_ (D.asA a0) 2)) ∧ (D.asI (at_ (D.asA a0) 2)) < (((D.asL (at_ (D.asA a0) 1))).length : Int))) then
      if (!((D.asI (at_ (D.asL (at_ (D.asA a0) 1)) (Int.toNat (D.asI (at_ (D.asA a0) 2))))) == (2 : Int))) then
        some (2, [(D.list []), (D.int 13)])
      else
        (R 10 [a0, a1, a2]).bind fun r1 =>
        if (!((D.asI (at_ r1 1)) == (0 : Int))) then
          some (2, [(D.list []), (at_ r1 1)])
        else
          (loopL (fun s3 =>
              if (decide ((D.asI (at_ s3 0)) < (((D.asL a2)).length : Int))) then
                (if (decide (0 ≤ (D.asI (at_ s3 0)) ∧ (D.asI (at_ s3 0)) < (((D.asL a2)).length : Int))) then
                  if (decide (0 ≤ (D.asI (at_ s3 0)) ∧ (D.asI (at_ s3 0)) < (((D.asL (at_ r1 0))).length : Int))) then
                  if ((D.asI (at_ (D.asA (at_ (D.asL (at_ r1 0)) (Int.toNat (D.asI (at_ s3 0))))) 1)) == (1 : Int)) then
                    (R 32 [(at_ (D.asA (at_ (D.asL a2) (Int.toNat (D.asI (at_ s3 0))))) 1)]).bind fun r5 =>
                    if (D.asB (U2.ev (.fits 34359738368) (D.int (((D.asL (at_ s3 1))).length : Int)) (D.int ((((D.agg ((at_ (D.asA (at_ (D.asL a2) (Int.toNat (D.asI (at_ s3 0))))) 0) :: ((at_ r5 0) :: ((at_ (D.asA (at_ (D.asL a2) (Int.toNat (D.asI (at_ s3 0))))) 2) :: ([] : List D))))) :: ([] : List D))).length : Int)))) then
                    some (2097156, [(D.list ((D.asL (at_ s3 1)) ++ [(D.agg ((at_ (D.asA (at_ (D.asL a2) (Int.toNat (D.asI (at_ s3 0))))) 0) :: ((at_ r5 0) :: ((at_ (D.asA (at_ (D.asL a2) (Int.toNat (D.asI (at_ s3 0))))) 2) :: ([] : List D)))))]))])
                    else none
                  else
                    some (2097156, [(at_ s3 1)])
                  else none
                  else none).bind fun o4 =>
                if o4.1 = 2097156 then
                  some (0, [(D.int (IntKind.wrap .i64 ((D.asI (at_ s3 0)) + (1 : Int)))), (at_ o4.2 0)])
                else some o4
              else
                some (1507334, [(at_ s3 1)])) [(D.int 0), (D.list [])]).bind fun o2 =>
          if o2.1 = 1507334 then
            some (2, [(at_ o2.2 0), (D.int 0)])
          else some o2
      else none : Option Out) := by kernel_rfl
-- errata/vm.Work
def h18 : List (Nat × List (Nat × Tm × Nat)) := []
def il18 : IL := (.ite (.bin .or (.bin .ile (.var 1) (.int 0)) (.bin .ieq (.un .len (.un (.fld 0) (.var 0))) (.int 0))) (.out 2 [(.int 0)]) (.chk (.un .not (.bin .ieq (.un .len (.un (.fld 0) (.var 0))) (.int 0))) (.ite (.bin .ilt (.bin (.quo .i64) (.int 1099511627776) (.un .len (.un (.fld 0) (.var 0)))) (.var 1)) (.out 2 [(.int 1099511627776)]) (.out 2 [(.bin (.mul .i64) (.un .len (.un (.fld 0) (.var 0))) (.var 1))]))))
theorem d18 : decompF C ⟨[.struct 25, .int .i64], [.int .i64], [false]⟩ Tryd.f18 h18 = some il18 := by kernel_rfl
theorem e18 (R : Fns) (a0 a1 : D) : den C.G R il18 [a0, a1] =
    (if ((decide ((D.asI a1) ≤ (0 : Int))) || ((((D.asL (at_ (D.asA a0) 0))).length : Int) == (0 : Int))) then
      some (2, [(D.int 0)])
    else
      if (!((((D.asL (at_ (D.asA a0) 0))).length : Int) == (0 : Int))) then
      if (decide ((IntKind.wrap .i64 (Int.tdiv (1099511627776 : Int) (((D.asL (at_ (D.asA a0) 0))).length : Int))) < (D.asI a1))) then
        some (2, [(D.int 1099511627776)])
      else
        some (2, [(D.int (IntKind.wrap .i64 ((((D.asL (at_ (D.asA a0) 0))).length : Int) * (D.asI a1))))])
      else none : Option Out) := by kernel_rfl
-- errata/code.Trim
def h19 : List (Nat × List (Nat × Tm × Nat)) := [(7, [(0, ⟨[(1, (.bptr 8 [] 25)), (13, (.sli 104 0 4)), (14, (.dat (.int .i64) (.un .len (.var 2)))), (15, (.dat (.int .i64) (.var 3))), (3, (.bptr 24 [] 25)), (2, (.bptr 16 [] 25))], [(8, (.box 25 (.dat (.struct 25) (.var 0)))), (104, (.arr 4 (.var 2) 0)), (24, (.box 25 (.agg 25 [(.sli 232 0 52), (.sli 64 0 3), (.dat (.int .i64) (.un (.fld 2) (.var 0)))]))), (232, (.arr 52 (.var 4) 0)), (64, (.arr 3 (.var 1) 0)), (16, (.box 25 (.agg 25 [(.nils 52), (.nils 3), (.dat (.int .i64) (.int 0))])))]⟩, 2), (3, ⟨[(3, (.bptr 24 [] 25)), (2, (.bptr 16 [] 25))], [(24, (.box 25 (.agg 25 [(.sli 232 0 52), (.sli 64 0 3), (.dat (.int .i64) (.un (.fld 2) (.var 0)))]))), (232, (.arr 52 (.var 3) 0)), (64, (.arr 3 (.var 1) 0)), (16, (.box 25 (.agg 25 [(.nils 52), (.nils 3), (.dat (.int .i64) (.int 0))])))]⟩, 1)]), (14, [(1, ⟨[(4, (.dat (.int .i64) (.var 3))), (1, (.bptr 8 [] 25)), (20, (.dat (.bool) (.bin .idx (.var 2) (.var 3)))), (5, (.dat (.bool) (.bin .idx (.var 2) (.var 3)))), (19, (.dat (.bool) (.bin .idx (.var 2) (.var 3)))), (17, (.dat (.int .i64) (.var 3))), (13, (.sli 104 0 4)), (16, (.dat (.bool) (.bin .ilt (.var 3) (.un .len (.var 2))))), (14, (.dat (.int .i64) (.un .len (.var 2)))), (15, (.dat (.int .i64) (.var 3))), (3, (.bptr 24 [] 25)), (2, (.bptr 16 [] 25))], [(8, (.box 25 (.dat (.struct 25) (.var 0)))), (104, (.arr 4 (.var 2) 0)), (24, (.box 25 (.agg 25 [(.sli 232 0 52), (.sli 64 0 3), (.dat (.int .i64) (.un (.fld 2) (.var 0)))]))), (232, (.arr 52 (.var 5) 0)), (64, (.arr 3 (.var 1) 0)), (16, (.box 25 (.agg 25 [(.nils 52), (.nils 3), (.dat (.int .i64) (.int 0))])))]⟩, 1)])]
def il19 : IL := (.call [] 1 33 [(.un (.fld 1) (.var 0))] (.call [] 1 34 [(.var 0)] (.bindc (.loop [(.int 0), .lnil] (.ite (.bin .ilt (.var 3) (.un .len (.var 2))) (.bindc (.chk (.bin .inb (.un .len (.var 2)) (.var 3)) (.ite (.bin .idx (.var 2) (.var 3)) (.chk (.bin .inb (.un .len (.un (.fld 0) (.var 0))) (.var 3)) (.chk (.bin (.fits 34359738368) (.un .len (.var 4)) (.un .len (.bin .cons (.bin .idx (.un (.fld 0) (.var 0)) (.var 3)) .lnil))) (.out 917508 [(.bin .snoc (.var 4) (.bin .idx (.un (.fld 0) (.var 0)) (.var 3)))]))) (.out 917508 [(.var 4)]))) 917508 1 (.out 0 [(.bin (.add .i64) (.var 3) (.int 1)), (.var 5)])) (.out 458758 [(.var 4)]))) 458758 1 (.out 2 [(.un .mkagg (.bin .cons (.var 3) (.bin .cons (.var 1) (.bin .cons (.un (.fld 2) (.var 0)) .lnil))))]))))
theorem d19 : decompF C ⟨[.struct 25], [.struct 25], [false]⟩ Tryd.f19 h19 = some il19 := by kernel_rfl
theorem e19 (R : Fns) (a0 : D) : den C.G R il19 [a0] =
    ((R 33 [(at_ (D.asA a0) 1)]).bind fun r0 =>
    (R 34 [a0]).bind fun r1 =>
    (loopL (fun s3 =>
        if (decide ((D.asI (at_ s3 0)) < (((D.asL (at_ r1 0))).length : Int))) then
          (if (decide (0 ≤ (D.asI (at_ s3 0)) ∧ (D.asI (at_ s3 0)) < (((D.asL (at_ r1 0))).length : Int))) then
            if (D.asB (at_ (D.asL (at_ r1 0)) (Int.toNat (D.asI (at_ s3 0))))) then
              if (decide (0 ≤ (D.asI (at_ s3 0)) ∧ (D.asI (at_ s3 0)) < (((D.asL (at_ (D.asA a0) 0))).length : Int))) then
              if (D.asB (U2.ev (.fits 34359738368) (D.int (((D.asL (at_ s3 1))).length : Int)) (D.int ((((at_ (D.asL (at_ (D.asA a0) 0)) (Int.toNat (D.asI (at_ s3 0)))) :: ([] : List D))).length : Int)))) then
              some (917508, [(D.list ((D.asL (at_ s3 1)) ++ [(at_ (D.asL (at_ (D.asA a0) 0)) (Int.toNat (D.asI (at_ s3 0))))]))])
              else none
              else none
            else
              some (917508, [(at_ s3 1)])
            else none).bind fun o4 =>
          if o4.1 = 917508 then
            some (0, [(D.int (IntKind.wrap .i64 ((D.asI (at_ s3 0)) + (1 : Int)))), (at_ o4.2 0)])
          else some o4
        else
          some (458758, [(at_ s3 1)])) [(D.int 0), (D.list [])]).bind fun o2 =>
    if o2.1 = 458758 then
      some (2, [(D.agg ((at_ o2.2 0) :: ((at_ r0 0) :: ((at_ (D.asA a0) 2) :: ([] : List D)))))])
    else some o2 : Option Out) := by kernel_rfl
-- errata/erratalaw27.two
def h21 : List (Nat × List (Nat × Tm × Nat)) := []
def il21 : IL := (.out 2 [(.un .mkagg (.bin .cons (.int 1) (.bin .cons (.bin .cons (.un .mkagg (.bin .cons (.int 0) (.bin .cons (.var 0) (.bin .cons (.str []) .lnil)))) (.bin .cons (.un .mkagg (.bin .cons (.int 0) (.bin .cons (.var 1) (.bin .cons (.str []) .lnil)))) .lnil)) (.bin .cons (.int 1) .lnil))))])
theorem d21 : decompF C ⟨[.int .i64, .int .i64], [.struct 37], [false]⟩ Tryd.f21 h21 = some il21 := by kernel_rfl
theorem e21 (R : Fns) (a0 a1 : D) : den C.G R il21 [a0, a1] =
    (some (2, [(D.agg ((D.int 1) :: ((D.list ((D.agg ((D.int 0) :: (a0 :: ((D.str []) :: ([] : List D))))) :: ((D.agg ((D.int 0) :: (a1 :: ((D.str []) :: ([] : List D))))) :: ([] : List D)))) :: ((D.int 1) :: ([] : List D)))))]) : Option Out) := by kernel_rfl
-- errata/errataref03.Short
def h22 : List (Nat × List (Nat × Tm × Nat)) := [(5, [(0, ⟨[(5, (.dat (.int .i64) (.var 2))), (1, (.dat (.int .i64) (.var 1))), (0, (.dat (.slice 39) (.var 0))), (4, (.dat (.bool) (.bool false)))], []⟩, 1), (3, ⟨[(1, (.dat (.int .i64) (.var 1))), (0, (.dat (.slice 39) (.var 0))), (4, (.dat (.bool) (.bool false)))], []⟩, 0)])]
def il22 : IL := (.bindc (.loop [(.int 0)] (.ite (.bin .ilt (.var 2) (.un .len (.var 0))) (.chk (.bin .inb (.un .len (.var 0)) (.var 2)) (.ite (.bin .ilt (.int 300) (.un .slen (.un (.fld 2) (.bin .idx (.var 0) (.var 2))))) (.out 2 [(.bool false)]) (.out 0 [(.bin (.add .i64) (.var 2) (.int 1))]))) (.out 327686 []))) 327686 0 (.out 2 [(.bin .ile (.un .len (.var 0)) (.var 1))]))
theorem d22 : decompF C ⟨[.slice 39, .int .i64], [.bool], [false]⟩ Tryd.f22 h22 = some il22 := by kernel_rfl
theorem e22 (R : Fns) (a0 a1 : D) : den C.G R il22 [a0, a1] =
    ((loopL (fun s1 =>
        if (decide ((D.asI (at_ s1 0)) < (((D.asL a0)).length : Int))) then
          if (decide (0 ≤ (D.asI (at_ s1 0)) ∧ (D.asI (at_ s1 0)) < (((D.asL a0)).length : Int))) then
          if (decide ((300 : Int) < (((D.asS (at_ (D.asA (at_ (D.asL a0) (Int.toNat (D.asI (at_ s1 0))))) 2))).length : Int))) then
            some (2, [(D.bool false)])
          else
            some (0, [(D.int (IntKind.wrap .i64 ((D.asI (at_ s1 0)) + (1 : Int))))])
          else none
        else
          some (327686, [])) [(D.int 0)]).bind fun o0 =>
    if o0.1 = 327686 then
      some (2, [(D.bool (decide ((((D.asL a0)).length : Int) ≤ (D.asI a1))))])
    else some o0 : Option Out) := by kernel_rfl
-- slices.ContainsFunc[[]int,int]
def h24 : List (Nat × List (Nat × Tm × Nat)) := []
def il24 : IL := (.call [] 1 37 [(.var 0), (.var 1)] (.out 2 [(.bin .ile (.int 0) (.var 2))]))
theorem d24 : decompF C ⟨[.slice 3, .func 56], [.bool], [false]⟩ Tryd.f24 h24 = some il24 := by kernel_rfl
theorem e24 (R : Fns) (a0 a1 : D) : den C.G R il24 [a0, a1] =
    ((R 37 [a0, a1]).bind fun r0 =>
    some (2, [(D.bool (decide ((0 : Int) ≤ (D.asI (at_ r0 0)))))]) : Option Out) := by kernel_rfl
-- errata/errataref25.Verify
def h30 : List (Nat × List (Nat × Tm × Nat)) := [(21, [(0, ⟨[(1, (.dat (.slice 3) (.var 1))), (8, (.dat (.int .i64) (.var 2))), (7, (.sli 392 0 4)), (2, (.bptr 16 [] 25)), (5, (.dat (.int .i64) (.int 0))), (4, (.dat (.int .i64) (.int 0)))], [(392, (.arr 4 (.var 3) 0)), (16, (.box 25 (.dat (.struct 25) (.var 0))))]⟩, 2), (5, ⟨[(7, (.sli 392 0 4)), (2, (.bptr 16 [] 25)), (5, (.dat (.int .i64) (.int 0))), (4, (.dat (.int .i64) (.int 0)))], [(392, (.arr 4 (.var 2) 0)), (16, (.box 25 (.dat (.struct 25) (.var 0))))]⟩, 1)]), (49, [(0, ⟨[(12, (.dat (.int .i64) (.var 9))), (108, (.dat (.bool) (.bin .and (.bin .ieq (.un (.fld 0) (.bin .idx (.un (.fld 0) (.var 0)) (.var 2))) (.int 3)) (.bin .or (.bin .ilt (.un (.fld 5) (.bin .idx (.un (.fld 0) (.var 0)) (.var 2))) (.int 0)) (.bin .ile (.un .len (.var 1)) (.un (.fld 5) (.bin .idx (.un (.fld 0) (.var 0)) (.var 2)))))))), (1, (.dat (.slice 3) (.var 1))), (97, (.dat (.bool) (.bin .ieq (.un (.fld 0) (.bin .idx (.un (.fld 0) (.var 0)) (.var 2))) (.int 3)))), (96, (.dat (.bool) (.bin .ieq (.un (.fld 0) (.bin .idx (.un (.fld 0) (.var 0)) (.var 2))) (.int 3)))), (95, (.dat (.int .i64) (.un (.fld 0) (.bin .idx (.un (.fld 0) (.var 0)) (.var 2))))), (94, (.bptr 72 [0] 3)), (75, (.dat (.bool) (.var 6))), (74, (.dat (.int .i64) (.un .len (.bin .app (.bin .cons (.un (.fld 1) (.bin .idx (.un (.fld 0) (.var 0)) (.var 2))) .lnil) (.var 5))))), (72, (.dat (.int .i64) (.var 7))), (73, (.sli 544 0 3)), (10, (.sli 544 0 3)), (11, (.dat (.int .i64) (.var 8))), (71, (.sli 544 0 3)), (70, (.dat (.slice 3) (.var 5))), (69, (.dat (.struct 52) (.bin .idx (.un (.fld 0) (.var 0)) (.var 2)))), (67, (.dat (.int .i64) (.un (.fld 1) (.bin .idx (.un (.fld 0) (.var 0)) (.var 2))))), (66, (.bptr 72 [1] 3)), (64, (.dat (.bool) (.un .not (.var 4)))), (63, (.dat (.bool) (.var 4))), (62, (.dat (.struct 52) (.bin .idx (.un (.fld 0) (.var 0)) (.var 2)))), (61, (.dat (.struct 52) (.bin .idx (.un (.fld 0) (.var 0)) (.var 2)))), (9, (.bptr 72 [] 52)), (60, (.dat (.ptr 52) (.un .mkptr (.bin .idx (.un (.fld 0) (.var 0)) (.var 2))))), (59, (.dat (.int .i64) (.var 2))), (58, (.dat (.slice 52) (.un (.fld 0) (.var 0)))), (57, (.bptr 16 [0] 22)), (54, (.dat (.bool) (.bin .ilt (.var 2) (.un .len (.un (.fld 0) (.var 0)))))), (53, (.dat (.int .i64) (.un .len (.un (.fld 0) (.var 0))))), (50, (.dat (.int .i64) (.var 2))), (52, (.dat (.slice 52) (.un (.fld 0) (.var 0)))), (51, (.bptr 16 [0] 22)), (8, (.dat (.int .i64) (.var 2))), (7, (.sli 392 0 4)), (2, (.bptr 16 [] 25)), (5, (.dat (.int .i64) (.int 0))), (4, (.dat (.int .i64) (.int 0)))], [(72, (.box 52 (.dat (.struct 52) (.bin .idx (.un (.fld 0) (.var 0)) (.var 2))))), (544, (.arr 3 (.bin .app (.bin .cons (.un (.fld 1) (.bin .idx (.un (.fld 0) (.var 0)) (.var 2))) .lnil) (.var 5)) 0)), (16, (.box 25 (.dat (.struct 25) (.var 0)))), (392, (.arr 4 (.var 3) 0))]⟩, 1), (9, ⟨[(113, (.dat (.bool) (.var 9))), (112, (.dat (.int .i64) (.un .len (.bin .app (.bin .cons (.un (.fld 1) (.bin .idx (.un (.fld 0) (.var 0)) (.var 2))) .lnil) (.var 5))))), (110, (.dat (.int .i64) (.var 10))), (111, (.sli 544 0 3)), (12, (.dat (.int .i64) (.var 11))), (108, (.dat (.bool) (.bin .and (.bin .ieq (.un (.fld 0) (.bin .idx (.un (.fld 0) (.var 0)) (.var 2))) (.int 3)) (.bin .or (.bin .ilt (.un (.fld 5) (.bin .idx (.un (.fld 0) (.var 0)) (.var 2))) (.int 0)) (.bin .ile (.un .len (.var 1)) (.un (.fld 5) (.bin .idx (.un (.fld 0) (.var 0)) (.var 2)))))))), (1, (.dat (.slice 3) (.var 1))), (97, (.dat (.bool) (.bin .ieq (.un (.fld 0) (.bin .idx (.un (.fld 0) (.var 0)) (.var 2))) (.int 3)))), (96, (.dat (.bool) (.bin .ieq (.un (.fld 0) (.bin .idx (.un (.fld 0) (.var 0)) (.var 2))) (.int 3)))), (95, (.dat (.int .i64) (.un (.fld 0) (.bin .idx (.un (.fld 0) (.var 0)) (.var 2))))), (94, (.bptr 72 [0] 3)), (75, (.dat (.bool) (.var 6))), (74, (.dat (.int .i64) (.un .len (.bin .app (.bin .cons (.un (.fld 1) (.bin .idx (.un (.fld 0) (.var 0)) (.var 2))) .lnil) (.var 5))))), (72, (.dat (.int .i64) (.var 7))), (73, (.sli 544 0 3)), (10, (.sli 544 0 3)), (11, (.dat (.int .i64) (.var 8))), (71, (.sli 544 0 3)), (70, (.dat (.slice 3) (.var 5))), (69, (.dat (.struct 52) (.bin .idx (.un (.fld 0) (.var 0)) (.var 2)))), (67, (.dat (.int .i64) (.un (.fld 1) (.bin .idx (.un (.fld 0) (.var 0)) (.var 2))))), (66, (.bptr 72 [1] 3)), (64, (.dat (.bool) (.un .not (.var 4)))), (63, (.dat (.bool) (.var 4))), (62, (.dat (.struct 52) (.bin .idx (.un (.fld 0) (.var 0)) (.var 2)))), (61, (.dat (.struct 52) (.bin .idx (.un (.fld 0) (.var 0)) (.var 2)))), (9, (.bptr 72 [] 52)), (60, (.dat (.ptr 52) (.un .mkptr (.bin .idx (.un (.fld 0) (.var 0)) (.var 2))))), (59, (.dat (.int .i64) (.var 2))), (58, (.dat (.slice 52) (.un (.fld 0) (.var 0)))), (57, (.bptr 16 [0] 22)), (54, (.dat (.bool) (.bin .ilt (.var 2) (.un .len (.un (.fld 0) (.var 0)))))), (53, (.dat (.int .i64) (.un .len (.un (.fld 0) (.var 0))))), (50, (.dat (.int .i64) (.var 2))), (52, (.dat (.slice 52) (.un (.fld 0) (.var 0)))), (51, (.bptr 16 [0] 22)), (8, (.dat (.int .i64) (.var 2))), (7, (.sli 392 0 4)), (2, (.bptr 16 [] 25)), (5, (.dat (.int .i64) (.int 0))), (4, (.dat (.int .i64) (.int 0)))], [(544, (.arr 3 (.bin .app (.bin .cons (.un (.fld 1) (.bin .idx (.un (.fld 0) (.var 0)) (.var 2))) .lnil) (.var 5)) 0)), (72, (.box 52 (.dat (.struct 52) (.bin .idx (.un (.fld 0) (.var 0)) (.var 2))))), (16, (.box 25 (.dat (.struct 25) (.var 0)))), (392, (.arr 4 (.var 3) 0))]⟩, 3)]), (35, [(0, ⟨[(1, (.dat (.slice 3) (.var 1))), (10, (.sli 544 0 3)), (11, (.dat (.int .i64) (.var 6))), (71, (.sli 544 0 3)), (70, (.dat (.slice 3) (.var 5))), (69, (.dat (.struct 52) (.bin .idx (.un (.fld 0) (.var 0)) (.var 2)))), (67, (.dat (.int .i64) (.un (.fld 1) (.bin .idx (.un (.fld 0) (.var 0)) (.var 2))))), (66, (.bptr 72 [1] 3)), (64, (.dat (.bool) (.un .not (.var 4)))), (63, (.dat (.bool) (.var 4))), (62, (.dat (.struct 52) (.bin .idx (.un (.fld 0) (.var 0)) (.var 2)))), (61, (.dat (.struct 52) (.bin .idx (.un (.fld 0) (.var 0)) (.var 2)))), (9, (.bptr 72 [] 52)), (60, (.dat (.ptr 52) (.un .mkptr (.bin .idx (.un (.fld 0) (.var 0)) (.var 2))))), (59, (.dat (.int .i64) (.var 2))), (58, (.dat (.slice 52) (.un (.fld 0) (.var 0)))), (57, (.bptr 16 [0] 22)), (54, (.dat (.bool) (.bin .ilt (.var 2) (.un .len (.un (.fld 0) (.var 0)))))), (53, (.dat (.int .i64) (.un .len (.un (.fld 0) (.var 0))))), (50, (.dat (.int .i64) (.var 2))), (52, (.dat (.slice 52) (.un (.fld 0) (.var 0)))), (51, (.bptr 16 [0] 22)), (8, (.dat (.int .i64) (.var 2))), (7, (.sli 392 0 4)), (2, (.bptr 16 [] 25)), (5, (.dat (.int .i64) (.int 0))), (4, (.dat (.int .i64) (.int 0)))], [(544, (.arr 3 (.bin .app (.bin .cons (.un (.fld 1) (.bin .idx (.un (.fld 0) (.var 0)) (.var 2))) .lnil) (.var 5)) 0)), (72, (.box 52 (.dat (.struct 52) (.bin .idx (.un (.fld 0) (.var 0)) (.var 2))))), (16, (.box 25 (.dat (.struct 25) (.var 0)))), (392, (.arr 4 (.var 3) 0))]⟩, 1), (7, ⟨[(1, (.dat (.slice 3) (.var 1))), (75, (.dat (.bool) (.var 6))), (74, (.dat (.int .i64) (.un .len (.bin .app (.bin .cons (.un (.fld 1) (.bin .idx (.un (.fld 0) (.var 0)) (.var 2))) .lnil) (.var 5))))), (72, (.dat (.int .i64) (.var 7))), (73, (.sli 544 0 3)), (10, (.sli 544 0 3)), (11, (.dat (.int .i64) (.var 8))), (71, (.sli 544 0 3)), (70, (.dat (.slice 3) (.var 5))), (69, (.dat (.struct 52) (.bin .idx (.un (.fld 0) (.var 0)) (.var 2)))), (67, (.dat (.int .i64) (.un (.fld 1) (.bin .idx (.un (.fld 0) (.var 0)) (.var 2))))), (66, (.bptr 72 [1] 3)), (64, (.dat (.bool) (.un .not (.var 4)))), (63, (.dat (.bool) (.var 4))), (62, (.dat (.struct 52) (.bin .idx (.un (.fld 0) (.var 0)) (.var 2)))), (61, (.dat (.struct 52) (.bin .idx (.un (.fld 0) (.var 0)) (.var 2)))), (9, (.bptr 72 [] 52)), (60, (.dat (.ptr 52) (.un .mkptr (.bin .idx (.un (.fld 0) (.var 0)) (.var 2))))), (59, (.dat (.int .i64) (.var 2))), (58, (.dat (.slice 52) (.un (.fld 0) (.var 0)))), (57, (.bptr 16 [0] 22)), (54, (.dat (.bool) (.bin .ilt (.var 2) (.un .len (.un (.fld 0) (.var 0)))))), (53, (.dat (.int .i64) (.un .len (.un (.fld 0) (.var 0))))), (50, (.dat (.int .i64) (.var 2))), (52, (.dat (.slice 52) (.un (.fld 0) (.var 0)))), (51, (.bptr 16 [0] 22)), (8, (.dat (.int .i64) (.var 2))), (7, (.sli 392 0 4)), (2, (.bptr 16 [] 25)), (5, (.dat (.int .i64) (.int 0))), (4, (.dat (.int .i64) (.int 0)))], [(544, (.arr 3 (.bin .app (.bin .cons (.un (.fld 1) (.bin .idx (.un (.fld 0) (.var 0)) (.var 2))) .lnil) (.var 5)) 0)), (72, (.box 52 (.dat (.struct 52) (.bin .idx (.un (.fld 0) (.var 0)) (.var 2))))), (16, (.box 25 (.dat (.struct 25) (.var 0)))), (392, (.arr 4 (.var 3) 0))]⟩, 3)]), (9, [(0, ⟨[(6, (.dat (.int .i64) (.var 2))), (1, (.dat (.slice 3) (.var 1))), (2, (.bptr 16 [] 25)), (5, (.dat (.int .i64) (.int 0))), (4, (.dat (.int .i64) (.int 0)))], [(16, (.box 25 (.dat (.struct 25) (.var 0))))]⟩, 1), (3, ⟨[(1, (.dat (.slice 3) (.var 1))), (2, (.bptr 16 [] 25)), (5, (.dat (.int .i64) (.int 0))), (4, (.dat (.int .i64) (.int 0)))], [(16, (.box 25 (.dat (.struct 25) (.var 0))))]⟩, 0)])]
def il30 : IL := (.ite (.bin .or (.bin .ilt (.int 1000) (.un .len (.un (.fld 0) (.var 0)))) (.bin .ilt (.int 1000) (.un .len (.un (.fld 1) (.var 0))))) (.out 2 [(.int (-1)), (.int 6)]) (.bindc (.loop [(.int 0)] (.ite (.bin .ilt (.var 2) (.un .len (.un (.fld 1) (.var 0)))) (.chk (.bin .inb (.un .len (.un (.fld 1) (.var 0))) (.var 2)) (.chk (.tri .ite (.bin .ilt (.bin .idx (.un (.fld 1) (.var 0)) (.var 2)) (.int 0)) (.bool true) (.bin .inb (.un .len (.un (.fld 1) (.var 0))) (.var 2))) (.ite (.bin .or (.bin .ilt (.bin .idx (.un (.fld 1) (.var 0)) (.var 2)) (.int 0)) (.bin .ile (.int 3) (.bin .idx (.un (.fld 1) (.var 0)) (.var 2)))) (.out 2 [(.int (-1)), (.int 13)]) (.out 0 [(.bin (.add .i64) (.var 2) (.int 1))])))) (.out 589830 []))) 589830 0 (.chk (.bin (.ble 34359738368) (.un .len (.un (.fld 1) (.var 0))) (.un .len (.un (.fld 1) (.var 0)))) (.bindc (.loop [(.int 0), (.bin .rep (.un .len (.un (.fld 1) (.var 0))) (.bool false))] (.ite (.bin .ilt (.var 2) (.un .len (.un (.fld 0) (.var 0)))) (.chk (.bin .inb (.un .len (.un (.fld 0) (.var 0))) (.var 2)) (.call [] 1 48 [(.bin .idx (.un (.fld 0) (.var 0)) (.var 2))] (.ite (.un .not (.var 4)) (.out 2 [(.var 2), (.int 2)]) (.call [] 1 49 [(.bin .idx (.un (.fld 0) (.var 0)) (.var 2))] (.chk (.bin (.fits 34359738368) (.un .len (.bin .cons (.un (.fld 1) (.bin .idx (.un (.fld 0) (.var 0)) (.var 2))) .lnil)) (.un .len (.var 5))) (.bindc (.loop [(.int 0)] (.ite (.bin .ilt (.var 6) (.un .len (.bin .app (.bin .cons (.un (.fld 1) (.bin .idx (.un (.fld 0) (.var 0)) (.var 2))) .lnil) (.var 5)))) (.chk (.bin .inb (.un .len (.bin .app (.bin .cons (.un (.fld 1) (.bin .idx (.un (.fld 0) (.var 0)) (.var 2))) .lnil) (.var 5))) (.var 6)) (.chk (.tri .ite (.bin .ilt (.bin .idx (.bin .app (.bin .cons (.un (.fld 1) (.bin .idx (.un (.fld 0) (.var 0)) (.var 2))) .lnil) (.var 5)) (.var 6)) (.int 0)) (.bool true) (.bin .inb (.un .len (.bin .app (.bin .cons (.un (.fld 1) (.bin .idx (.un (.fld 0) (.var 0)) (.var 2))) .lnil) (.var 5))) (.var 6))) (.ite (.bin .or (.bin .ilt (.bin .idx (.bin .app (.bin .cons (.un (.fld 1) (.bin .idx (.un (.fld 0) (.var 0)) (.var 2))) .lnil) (.var 5)) (.var 6)) (.int 0)) (.bin .ile (.un .len (.un (.fld 1) (.var 0))) (.bin .idx (.bin .app (.bin .cons (.un (.fld 1) (.bin .idx (.un (.fld 0) (.var 0)) (.var 2))) .lnil) (.var 5)) (.var 6)))) (.out 2 [(.var 2), (.int 3)]) (.out 0 [(.bin (.add .i64) (.var 6) (.int 1))])))) (.out 2293770 [(.bin .ilt (.var 6) (.un .len (.bin .app (.bin .cons (.un (.fld 1) (.bin .idx (.un (.fld 0) (.var 0)) (.var 2))) .lnil) (.var 5)))), (.var 6), (.var 6)]))) 2293770 3 (.ite (.bin .and (.bin .ieq (.un (.fld 0) (.bin .idx (.un (.fld 0) (.var 0)) (.var 2))) (.int 3)) (.bin .or (.bin .ilt (.un (.fld 5) (.bin .idx (.un (.fld 0) (.var 0)) (.var 2))) (.int 0)) (.bin .ile (.un .len (.var 1)) (.un (.fld 5) (.bin .idx (.un (.fld 0) (.var 0)) (.var 2)))))) (.out 2 [(.var 2), (.int 3)]) (.bindc (.loop [(.int 1)] (.ite (.bin .ilt (.var 9) (.un .len (.bin .app (.bin .cons (.un (.fld 1) (.bin .idx (.un (.fld 0) (.var 0)) (.var 2))) .lnil) (.var 5)))) (.chk (.bin .inb (.un .len (.bin .app (.bin .cons (.un (.fld 1) (.bin .idx (.un (.fld 0) (.var 0)) (.var 2))) .lnil) (.var 5))) (.var 9)) (.chk (.bin .inb (.un .len (.var 3)) (.bin .idx (.bin .app (.bin .cons (.un (.fld 1) (.bin .idx (.un (.fld 0) (.var 0)) (.var 2))) .lnil) (.var 5)) (.var 9))) (.ite (.un .not (.bin .idx (.var 3) (.bin .idx (.bin .app (.bin .cons (.un (.fld 1) (.bin .idx (.un (.fld 0) (.var 0)) (.var 2))) .lnil) (.var 5)) (.var 9)))) (.out 2 [(.var 2), (.int 25)]) (.out 0 [(.bin (.add .i64) (.var 9) (.int 1))])))) (.out 3211276 [(.bin .ilt (.var 9) (.un .len (.bin .app (.bin .cons (.un (.fld 1) (.bin .idx (.un (.fld 0) (.var 0)) (.var 2))) .lnil) (.var 5)))), (.var 9), (.var 9)]))) 3211276 3 (.call [] 2 50 [(.bin .idx (.un (.fld 0) (.var 0)) (.var 2)), (.var 1), (.un (.fld 1) (.var 0))] (.chk (.tri .ite (.un .not (.var 13)) (.bool true) (.bin .inb (.un .len (.un (.fld 1) (.var 0))) (.un (.fld 1) (.bin .idx (.un (.fld 0) (.var 0)) (.var 2))))) (.ite (.bin .or (.un .not (.var 13)) (.un .not (.bin .ieq (.var 12) (.bin .idx (.un (.fld 1) (.var 0)) (.un (.fld 1) (.bin .idx (.un (.fld 0) (.var 0)) (.var 2))))))) (.out 2 [(.var 2), (.int 13)]) (.chk (.bin .inb (.un .len (.var 3)) (.un (.fld 1) (.bin .idx (.un (.fld 0) (.var 0)) (.var 2)))) (.out 0 [(.bin (.add .i64) (.var 2) (.int 1)), (.tri .set (.var 3) (.un (.fld 1) (.bin .idx (.un (.fld 0) (.var 0)) (.var 2))) (.bool true))]))))))))))))) (.out 1376264 [(.var 3)]))) 1376264 1 (.ite (.bin .or (.bin .ilt (.un (.fld 2) (.var 0)) (.int 0)) (.bin .ile (.un .len (.un (.fld 1) (.var 0))) (.un (.fld 2) (.var 0)))) (.out 2 [(.int (-1)), (.int 3)]) (.chk (.bin .inb (.un .len (.var 2)) (.un (.fld 2) (.var 0))) (.ite (.un .not (.bin .idx (.var 2) (.un (.fld 2) (.var 0)))) (.out 2 [(.int (-1)), (.int 25)]) (.out 2 [(.int (-1)), (.int 0)]))))))))
theorem d30 : decompF C ⟨[.struct 25, .slice 3], [.int .i64, .int .i64], [false, false]⟩ Tryd.f30 h30 = some il30 := by kernel_rfl
theorem e30 (R : Fns) (a0 a1 : D) : den C.G R il30 [a0, a1] =
    (if ((decide ((1000 : Int) < (((D.asL (at_ (D.asA a0) 0))).length : Int))) || (decide ((1000 : Int) < (((D.asL (at_ (D.asA a0) 1))).length : Int)))) then
      some (2, [(D.int (-1)), (D.int 6)])
    else
      (loopL (fun s1 =>
          if (decide ((D.asI (at_ s1 0)) < (((D.asL (at_ (D.asA a0) 1))).length : Int))) then
            if (decide (0 ≤ (D.asI (at_ s1 0)) ∧ (D.asI (at_ s1 0)) < (((D.asL (at_ (D.asA a0) 1))).length : Int))) then
            if (D.asB (if (decide ((D.asI (at_ (D.asL (at_ (D.asA a0) 1)) (Int.toNat (D.asI (at_ s1 0))))) < (0 : Int))) then (D.bool true) else (D.bool (decide (0 ≤ (D.asI (at_ s1 0)) ∧ (D.asI (at_ s1 0)) < (((D.asL (at_ (D.asA a0) 1))).length : Int)))))) then
            if ((decide ((D.asI (at_ (D.asL (at_ (D.asA a0) 1)) (Int.toNat (D.asI (at_ s1 0))))) < (0 : Int))) || (decide ((3 : Int) ≤ (D.asI (at_ (D.asL (at_ (D.asA a0) 1)) (Int.toNat (D.asI (at_ s1 0)))))))) then
              some (2, [(D.int (-1)), (D.int 13)])
            else
              some (0, [(D.int (IntKind.wrap .i64 ((D.asI (at_ s1 0)) + (1 : Int))))])
            else none
            else none
          else
            some (589830, [])) [(D.int 0)]).bind fun o0 =>
      if o0.1 = 589830 then
        if (D.asB (U2.ev (.ble 34359738368) (D.int (((D.asL (at_ (D.asA a0) 1))).length : Int)) (D.int (((D.asL (at_ (D.asA a0) 1))).length : Int)))) then
        (loopL (fun s2 =>
            if (decide ((D.asI (at_ s2 0)) < (((D.asL (at_ (D.asA a0) 0))).length : Int))) then
              if (decide (0 ≤ (D.asI (at_ s2 0)) ∧ (D.asI (at_ s2 0)) < (((D.asL (at_ (D.asA a0) 0))).length : Int))) then
              (R 48 [(at_ (D.asL (at_ (D.asA a0) 0)) (Int.toNat (D.asI (at_ s2 0))))]).bind fun r3 =>
              if (!(D.asB (at_ r3 0))) then
                some (2, [(at_ s2 0), (D.int 2)])
              else
                (R 49 [(at_ (D.asL (at_ (D.asA a0) 0)) (Int.toNat (D.asI (at_ s2 0))))]).bind fun r4 =>
                if (D.asB (U2.ev (.fits 34359738368) (D.int ((((at_ (D.asA (at_ (D.asL (at_ (D.asA a0) 0)) (Int.toNat (D.asI (at_ s2 0))))) 1) :: ([] : List D))).length : Int)) (D.int (((D.asL (at_ r4 0))).length : Int)))) then
                (loopL (fun s6 =>
                    if (decide ((D.asI (at_ s6 0)) < (((((at_ (D.asA (at_ (D.asL (at_ (D.asA a0) 0)) (Int.toNat (D.asI (at_ s2 0))))) 1) :: ([] : List D)) ++ (D.asL (at_ r4 0)))).length : Int))) then
                      if (decide (0 ≤ (D.asI (at_ s6 0)) ∧ (D.asI (at_ s6 0)) < (((((at_ (D.asA (at_ (D.asL (at_ (D.asA a0) 0)) (Int.toNat (D.asI (at_ s2 0))))) 1) :: ([] : List D)) ++ (D.asL (at_ r4 0)))).length : Int))) then
                      if (D.asB (if (decide ((D.asI (at_ (((at_ (D.asA (at_ (D.asL (at_ (D.asA a0) 0)) (Int.toNat (D.asI (at_ s2 0))))) 1) :: ([] : List D)) ++ (D.asL (at_ r4 0))) (Int.toNat (D.asI (at_ s6 0))))) < (0 : Int))) then (D.bool true) else (D.bool (decide (0 ≤ (D.asI (at_ s6 0)) ∧ (D.asI (at_ s6 0)) < (((((at_ (D.asA (at_ (D.asL (at_ (D.asA a0) 0)) (Int.toNat (D.asI (at_ s2 0))))) 1) :: ([] : List D)) ++ (D.asL (at_ r4 0)))).length : Int)))))) then
                      if ((decide ((D.asI (at_ (((at_ (D.asA (at_ (D.asL (at_ (D.asA a0) 0)) (Int.toNat (D.asI (at_ s2 0))))) 1) :: ([] : List D)) ++ (D.asL (at_ r4 0))) (Int.toNat (D.asI (at_ s6 0))))) < (0 : Int))) || (decide ((((D.asL (at_ (D.asA a0) 1))).length : Int) ≤ (D.asI (at_ (((at_ (D.asA (at_ (D.asL (at_ (D.asA a0) 0)) (Int.toNat (D.asI (at_ s2 0))))) 1) :: ([] : List D)) ++ (D.asL (at_ r4 0))) (Int.toNat (D.asI (at_ s6 0)))))))) then
                        some (2, [(at_ s2 0), (D.int 3)])
                      else
                        some (0, [(D.int (IntKind.wrap .i64 ((D.asI (at_ s6 0)) + (1 : Int))))])
                      else none
                      else none
                    else
                      some (2293770, [(D.bool (decide ((D.asI (at_ s6 0)) < (((((at_ (D.asA (at_ (D.asL (at_ (D.asA a0) 0)) (Int.toNat (D.asI (at_ s2 0))))) 1) :: ([] : List D)) ++ (D.asL (at_ r4 0)))).length : Int)))), (at_ s6 0), (at_ s6 0)])) [(D.int 0)]).bind fun o5 =>
                if o5.1 = 2293770 then
                  if (((D.asI (at_ (D.asA (at_ (D.asL (at_ (D.asA a0) 0)) (Int.toNat (D.asI (at_ s2 0))))) 0)) == (3 : Int)) && ((decide ((D.asI (at_ (D.asA (at_ (D.asL (at_ (D.asA a0) 0)) (Int.toNat (D.asI (at_ s2 0))))) 5)) < (0 : Int))) || (decide ((((D.asL a1)).length : Int) ≤ (D.asI (at_ (D.asA (at_ (D.asL (at_ (D.asA a0) 0)) (Int.toNat (D.asI (at_ s2 0))))) 5)))))) then
                    some (2, [(at_ s2 0), (D.int 3)])
                  else
                    (loopL (fun s7 =>
                        if (decide ((D.asI (at_ s7 0)) < (((((at_ (D.asA (at_ (D.asL (at_ (D.asA a0) 0)) (Int.toNat (D.asI (at_ s2 0))))) 1) :: ([] : List D)) ++ (D.asL (at_ r4 0)))).length : Int))) then
                          if (decide (0 ≤ (D.asI (at_ s7 0)) ∧ (D.asI (at_ s7 0)) < (((((at_ (D.asA (at_ (D.asL (at_ (D.asA a0) 0)) (Int.toNat (D.asI (at_ s2 0))))) 1) :: ([] : List D)) ++ (D.asL (at_ r4 0)))).length : Int))) then
                          if (decide (0 ≤ (D.asI (at_ (((at_ (D.asA (at_ (D.asL (at_ (D.asA a0) 0)) (Int.toNat (D.asI (at_ s2 0))))) 1) :: ([] : List D)) ++ (D.asL (at_ r4 0))) (Int.toNat (D.asI (at_ s7 0))))) ∧ (D.asI (at_ (((at_ (D.asA (at_ (D.asL (at_ (D.asA a0) 0)) (Int.toNat (D.asI (at_ s2 0))))) 1) :: ([] : List D)) ++ (D.asL (at_ r4 0))) (Int.toNat (D.asI (at_ s7 0))))) < (((D.asL (at_ s2 1))).length : Int))) then
                          if (!(D.asB (at_ (D.asL (at_ s2 1)) (Int.toNat (D.asI (at_ (((at_ (D.asA (at_ (D.asL (at_ (D.asA a0) 0)) (Int.toNat (D.asI (at_ s2 0))))) 1) :: ([] : List D)) ++ (D.asL (at_ r4 0))) (Int.toNat (D.asI (at_ s7 0))))))))) then
                            some (2, [(at_ s2 0), (D.int 25)])
                          else
                            some (0, [(D.int (IntKind.wrap .i64 ((D.asI (at_ s7 0)) + (1 : Int))))])
                          else none
                          else none
                        else
                          some (3211276, [(D.bool (decide ((D.asI (at_ s7 0)) < (((((at_ (D.asA (at_ (D.asL (at_ (D.asA a0) 0)) (Int.toNat (D.asI (at_ s2 0))))) 1) :: ([] : List D)) ++ (D.asL (at_ r4 0)))).length : Int)))), (at_ s7 0), (at_ s7 0)])) [(D.int 1)]).bind fun o6 =>
                    if o6.1 = 3211276 then
                      (R 50 [(at_ (D.asL (at_ (D.asA a0) 0)) (Int.toNat (D.asI (at_ s2 0)))), a1, (at_ (D.asA a0) 1)]).bind fun r7 =>
                      if (D.asB (if (!(D.asB (at_ r7 1))) then (D.bool true) else (D.bool (decide (0 ≤ (D.asI (at_ (D.asA (at_ (D.asL (at_ (D.asA a0) 0)) (Int.toNat (D.asI (at_ s2 0))))) 1)) ∧ (D.asI (at_ (D.asA (at_ (D.asL (at_ (D.asA a0) 0)) (Int.toNat (D.asI (at_ s2 0))))) 1)) < (((D.asL (at_ (D.asA a0) 1))).length : Int)))))) then
                      if ((!(D.asB (at_ r7 1))) || (!((D.asI (at_ r7 0)) == (D.asI (at_ (D.asL (at_ (D.asA a0) 1)) (Int.toNat (D.asI (at_ (D.asA (at_ (D.asL (at_ (D.asA a0) 0)) (Int.toNat (D.asI (at_ s2 0))))) 1)))))))) then
                        some (2, [(at_ s2 0), (D.int 13)])
                      else
                        if (decide (0 ≤ (D.asI (at_ (D.asA (at_ (D.asL (at_ (D.asA a0) 0)) (Int.toNat (D.asI (at_ s2 0))))) 1)) ∧ (D.asI (at_ (D.asA (at_ (D.asL (at_ (D.asA a0) 0)) (Int.toNat (D.asI (at_ s2 0))))) 1)) < (((D.asL (at_ s2 1))).length : Int))) then
                        some (0, [(D.int (IntKind.wrap .i64 ((D.asI (at_ s2 0)) + (1 : Int)))), (D.list (((D.asL (at_ s2 1))).set (Int.toNat (D.asI (at_ (D.asA (at_ (D.asL (at_ (D.asA a0) 0)) (Int.toNat (D.asI (at_ s2 0))))) 1))) (D.bool true)))])
                        else none
                      else none
                    else some o6
                else some o5
                else none
              else none
            else
              some (1376264, [(at_ s2 1)])) [(D.int 0), (D.list (List.replicate (Int.toNat (((D.asL (at_ (D.asA a0) 1))).length : Int)) (D.bool false)))]).bind fun o1 =>
        if o1.1 = 1376264 then
          if ((decide ((D.asI (at_ (D.asA a0) 2)) < (0 : Int))) || (decide ((((D.asL (at_ (D.asA a0) 1))).length : Int) ≤ (D.asI (at_ (D.asA a0) 2))))) then
            some (2, [(D.int (-1)), (D.int 3)])
          else
            if (decide (0 ≤ (D.asI (at_ (D.asA a0) 2)) ∧ (D.asI (at_ (D.asA a0) 2)) < (((D.asL (at_ o1.2 0))).length : Int))) then
            if (!(D.asB (at_ (D.asL (at_ o1.2 0)) (Int.toNat (D.asI (at_ (D.asA a0) 2)))))) then
              some (2, [(D.int (-1)), (D.int 25)])
            else
              some (2, [(D.int (-1)), (D.int 0)])
            else none
        else some o1
        else none
      else some o0 : Option Out) := by kernel_rfl
-- errata/code.formed
def h38 : List (Nat × List (Nat × Tm × Nat)) := []
def il38 : IL := (.call [] 1 54 [(.un (.fld 0) (.var 0))] (.call [((.var 1), true)] 1 55 [(.var 0)] (.chk (.tri .ite (.bin .and (.bin .and (.var 1) (.bin .deq (.var 2) (.var 0))) (.bin .ile (.un .slen (.un (.fld 6) (.var 0))) (.int 200))) (.tri .ite (.un .not (.bin .ieq (.un (.fld 0) (.var 0)) (.int 2))) (.bool true) (.bin .ile (.int 0) (.int 1))) (.bool true)) (.out 2 [(.bin .and (.bin .and (.bin .and (.var 1) (.bin .deq (.var 2) (.var 0))) (.bin .ile (.un .slen (.un (.fld 6) (.var 0))) (.int 200))) (.bin .or (.un .not (.bin .ieq (.un (.fld 0) (.var 0)) (.int 2))) (.bin .ieq (.bin (.shr .i64) (.un (.fld 5) (.var 0)) (.int 1)) (.int 0))))]))))
theorem d38 : decompF C ⟨[.struct 52], [.bool], [false]⟩ Tryd.f38 h38 = some il38 := by kernel_rfl
theorem e38 (R : Fns) (a0 : D) : den C.G R il38 [a0] =
    ((R 54 [(at_ (D.asA a0) 0)]).bind fun r0 =>
    callIf (((D.asB (at_ r0 0)) == true) && true) (R 55 [a0]) fun r1 =>
    if (D.asB (if (((D.asB (at_ r0 0)) && (D.beq (at_ r1 0) a0)) && (decide ((((D.asS (at_ (D.asA a0) 6))).length : Int) ≤ (200 : Int)))) then (if (!((D.asI (at_ (D.asA a0) 0)) == (2 : Int))) then (D.bool true) else (D.bool (decide ((0 : Int) ≤ (1 : Int))))) else (D.bool true))) then
    some (2, [(D.bool ((((D.asB (at_ r0 0)) && (D.beq (at_ r1 0) a0)) && (decide ((((D.asS (at_ (D.asA a0) 6))).length : Int) ≤ (200 : Int)))) && ((!((D.asI (at_ (D.asA a0) 0)) == (2 : Int))) || ((D.asI (U2.ev (.shr .i64) (at_ (D.asA a0) 5) (D.int 1))) == (0 : Int)))))])
    else none : Option Out) := by kernel_rfl
-- (*errata/vm.machine).one
def h44 : List (Nat × List (Nat × Tm × Nat)) := []
def il44 : IL := (.chk (.un .isptr (.var 0)) (.chk (.bin .inb (.un .len (.un (.fld 1) (.un .deref (.var 0)))) (.un (.fld 2) (.var 1))) (.call [] 1 60 [(.var 0), (.fn 65 .lnil (.bin .cons (.un .mkptr (.var 1)) (.bin .cons (.un .mkptr (.bin .idx (.un (.fld 1) (.un .deref (.var 0))) (.un (.fld 2) (.var 1)))) .lnil)))] (.out 2 [(.var 2)]))))
theorem d44 : decompF C ⟨[.ptr 81, .struct 52], [.slice 39], [true]⟩ Tryd.f44 h44 = some il44 := by kernel_rfl
theorem e44 (R : Fns) (a0 a1 : D) : den C.G R il44 [a0, a1] =
    (if (D.isP a0) then
    if (decide (0 ≤ (D.asI (at_ (D.asA a1) 2)) ∧ (D.asI (at_ (D.asA a1) 2)) < (((D.asL (at_ (D.asA (D.asP a0)) 1))).length : Int))) then
    (R 60 [a0, (D.fn 65 ([] : List D) ((D.ptr a1) :: ((D.ptr (at_ (D.asL (at_ (D.asA (D.asP a0)) 1)) (Int.toNat (D.asI (at_ (D.asA a1) 2))))) :: ([] : List D))))]).bind fun r0 =>
    some (2, [(at_ r0 0)])
    else none
    else none : Option Out) := by kernel_rfl
-- (*errata/vm.machine).column
def h60 : List (Nat × List (Nat × Tm × Nat)) := [(7, [(0, ⟨[(1, (.dat (.func 98) (.var 1))), (17, (.dat (.int .i64) (.un .len (.un (.fld 0) (.un .deref (.var 0)))))), (18, (.dat (.int .i64) (.var 2))), (5, (.sli 96 0 39)), (4, (.nils 39))], [(96, (.arr 39 (.var 3) 0))]⟩, 2), (3, ⟨[(5, (.sli 96 0 39)), (4, (.nils 39))], [(96, (.arr 39 (.var 2) 0))]⟩, 1)])]
def il60 : IL := (.chk (.un .isptr (.var 0)) (.chk (.bin (.ble 34359738368) (.un .len (.un (.fld 0) (.un .deref (.var 0)))) (.un .len (.un (.fld 0) (.un .deref (.var 0))))) (.chk (.un .isptr (.var 0)) (.bindc (.loop [(.int 0), (.bin .rep (.un .len (.un (.fld 0) (.un .deref (.var 0)))) (.un .mkagg (.bin .cons (.int 0) (.bin .cons (.int 0) (.bin .cons (.str []) .lnil)))))] (.ite (.bin .ilt (.var 2) (.un .len (.un (.fld 0) (.un .deref (.var 0))))) (.callv [] 1 (.var 1) [(.var 2)] (.chk (.bin .inb (.un .len (.var 3)) (.var 2)) (.out 0 [(.bin (.add .i64) (.var 2) (.int 1)), (.tri .set (.var 3) (.var 2) (.var 4))]))) (.out 458758 [(.var 3)]))) 458758 1 (.out 2 [(.var 2)])))))
theorem d60 : decompF C ⟨[.ptr 81, .func 98], [.slice 39], [true]⟩ Tryd.f60 h60 = some il60 := by kernel_rfl
theorem e60 (R : Fns) (a0 a1 : D) : den C.G R il60 [a0, a1] =
    (if (D.isP a0) then
    if (D.asB (U2.ev (.ble 34359738368) (D.int (((D.asL (at_ (D.asA (D.asP a0)) 0))).length : Int)) (D.int (((D.asL (at_ (D.asA (D.asP a0)) 0))).length : Int)))) then
    if (D.isP a0) then
    (loopL (fun s1 =>
        if (decide ((D.asI (at_ s1 0)) < (((D.asL (at_ (D.asA (D.asP a0)) 0))).length : Int))) then
          (callD R a1 [(at_ s1 0)]).bind fun r2 =>
          if (decide (0 ≤ (D.asI (at_ s1 0)) ∧ (D.asI (at_ s1 0)) < (((D.asL (at_ s1 1))).length : Int))) then
          some (0, [(D.int (IntKind.wrap .i64 ((D.asI (at_ s1 0)) + (1 : Int)))), (D.list (((D.asL (at_ s1 1))).set (Int.toNat (D.asI (at_ s1 0))) (at_ r2 0)))])
          else none
        else
          some (458758, [(at_ s1 1)])) [(D.int 0), (D.list (List.replicate (Int.toNat (((D.asL (at_ (D.asA (D.asP a0)) 0))).length : Int)) (D.agg ((D.int 0) :: ((D.int 0) :: ((D.str []) :: ([] : List D)))))))]).bind fun o0 =>
    if o0.1 = 458758 then
      some (2, [(at_ o0.2 0)])
    else some o0
    else none
    else none
    else none : Option Out) := by kernel_rfl
-- errata/value.Text
def h64 : List (Nat × List (Nat × Tm × Nat)) := []
def il64 : IL := (.out 2 [(.un .mkagg (.bin .cons (.int 1) (.bin .cons (.int 0) (.bin .cons (.var 0) .lnil))))])
theorem d64 : decompF C ⟨[.str], [.struct 39], [false]⟩ Tryd.f64 h64 = some il64 := by kernel_rfl
theorem e64 (R : Fns) (a0 : D) : den C.G R il64 [a0] =
    (some (2, [(D.agg ((D.int 1) :: ((D.int 0) :: (a0 :: ([] : List D)))))]) : Option Out) := by kernel_rfl
-- errata/expr.kind
def h76 : List (Nat × List (Nat × Tm × Nat)) := []
def il76 : IL := (.out 2 [(.bin .and (.bin .ile (.int 0) (.var 0)) (.bin .ilt (.var 0) (.int 3)))])
theorem d76 : decompF C ⟨[.int .i64], [.bool], [false]⟩ Tryd.f76 h76 = some il76 := by kernel_rfl
theorem e76 (R : Fns) (a0 : D) : den C.G R il76 [a0] =
    (some (2, [(D.bool ((decide ((0 : Int) ≤ (D.asI a0))) && (decide ((D.asI a0) < (3 : Int)))))]) : Option Out) := by kernel_rfl
-- errata/vm.divided
def h85 : List (Nat × List (Nat × Tm × Nat)) := []
def il85 : IL := (.ite (.bin .ieq (.var 1) (.int 0)) (.out 2 [(.int 0), (.int 0)]) (.chk (.un .not (.bin .ieq (.var 1) (.int 0))) (.chk (.un .not (.bin .ieq (.var 1) (.int 0))) (.out 2 [(.bin (.quo .i64) (.var 0) (.var 1)), (.bin (.rem .i64) (.var 0) (.var 1))]))))
theorem d85 : decompF C ⟨[.int .i64, .int .i64], [.int .i64, .int .i64], [false, false]⟩ Tryd.f85 h85 = some il85 := by kernel_rfl
theorem e85 (R : Fns) (a0 a1 : D) : den C.G R il85 [a0, a1] =
    (if ((D.asI a1) == (0 : Int)) then
      some (2, [(D.int 0), (D.int 0)])
    else
      if (!((D.asI a1) == (0 : Int))) then
      if (!((D.asI a1) == (0 : Int))) then
      some (2, [(D.int (IntKind.wrap .i64 (Int.tdiv (D.asI a0) (D.asI a1)))), (D.int (Int.tmod (D.asI a0) (D.asI a1)))])
      else none
      else none : Option Out) := by kernel_rfl
-- slices.IndexFunc[[]errata/api.Value,errata/api.Value]
def h92 : List (Nat × List (Nat × Tm × Nat)) := [(5, [(0, ⟨[(0, (.dat (.slice 39) (.var 0))), (1, (.dat (.func 88) (.var 1))), (7, (.dat (.int .i64) (.un .len (.var 0)))), (8, (.dat (.int .i64) (.var 2))), (4, (.dat (.int .i64) (.int 0)))], []⟩, 1), (3, ⟨[(4, (.dat (.int .i64) (.int 0)))], []⟩, 0)])]
def il92 : IL := (.bindc (.loop [(.int 0)] (.ite (.bin .ilt (.var 2) (.un .len (.var 0))) (.chk (.bin .inb (.un .len (.var 0)) (.var 2)) (.callv [] 1 (.var 1) [(.bin .idx (.var 0) (.var 2))] (.ite (.var 3) (.out 2 [(.var 2)]) (.out 0 [(.bin (.add .i64) (.var 2) (.int 1))])))) (.out 327686 []))) 327686 0 (.out 2 [(.int (-1))]))
theorem d92 : decompF C ⟨[.slice 39, .func 88], [.int .i64], [false]⟩ Tryd.f92 h92 = some il92 := by kernel_rfl
theorem e92 (R : Fns) (a0 a1 : D) : den C.G R il92 [a0, a1] =
    ((loopL (fun s1 =>
        if (decide ((D.asI (at_ s1 0)) < (((D.asL a0)).length : Int))) then
          if (decide (0 ≤ (D.asI (at_ s1 0)) ∧ (D.asI (at_ s1 0)) < (((D.asL a0)).length : Int))) then
          (callD R a1 [(at_ (D.asL a0) (Int.toNat (D.asI (at_ s1 0))))]).bind fun r2 =>
          if (D.asB (at_ r2 0)) then
            some (2, [(at_ s1 0)])
          else
            some (0, [(D.int (IntKind.wrap .i64 ((D.asI (at_ s1 0)) + (1 : Int))))])
          else none
        else
          some (327686, [])) [(D.int 0)]).bind fun o0 =>
    if o0.1 = 327686 then
      some (2, [(D.int (-1))])
    else some o0 : Option Out) := by kernel_rfl
-- errata/errataref16.call
def h103 : List (Nat × List (Nat × Tm × Nat)) := [(15, [(0, ⟨[(2, (.dat (.slice 3) (.var 2))), (9, (.dat (.int .i64) (.var 3))), (8, (.bptr 64 [] 107)), (7, (.dat (.bool) (.bool false))), (6, (.dat (.int .i64) (.int 0)))], [(64, (.box 107 (.dat (.struct 107) (.bin .idx (.var 0) (.var 1)))))]⟩, 1), (3, ⟨[(8, (.bptr 64 [] 107)), (7, (.dat (.bool) (.bool false))), (6, (.dat (.int .i64) (.int 0)))], [(64, (.box 107 (.dat (.struct 107) (.bin .idx (.var 0) (.var 1)))))]⟩, 0)])]
def il103 : IL := (.ite (.bin .or (.bin .ilt (.var 1) (.int 0)) (.bin .ile (.un .len (.var 0)) (.var 1))) (.out 2 [(.int 0), (.bool false)]) (.chk (.bin .inb (.un .len (.var 0)) (.var 1)) (.ite (.un .not (.bin .ieq (.un .len (.un (.fld 1) (.bin .idx (.var 0) (.var 1)))) (.un .len (.var 2)))) (.out 2 [(.int 0), (.bool false)]) (.bindc (.loop [(.int 0)] (.ite (.bin .ilt (.var 3) (.un .len (.var 2))) (.chk (.bin .inb (.un .len (.var 2)) (.var 3)) (.chk (.bin .inb (.un .len (.un (.fld 1) (.bin .idx (.var 0) (.var 1)))) (.var 3)) (.ite (.un .not (.bin .ieq (.bin .idx (.var 2) (.var 3)) (.bin .idx (.un (.fld 1) (.bin .idx (.var 0) (.var 1))) (.var 3)))) (.out 2 [(.int 0), (.bool false)]) (.out 0 [(.bin (.add .i64) (.var 3) (.int 1))])))) (.out 983046 []))) 983046 0 (.out 2 [(.un (.fld 2) (.bin .idx (.var 0) (.var 1))), (.bool true)])))))
theorem d103 : decompF C ⟨[.slice 107, .int .i64, .slice 3], [.int .i64, .bool], [false, false]⟩ Tryd.f103 h103 = some il103 := by kernel_rfl
theorem e103 (R : Fns) (a0 a1 a2 : D) : den C.G R il103 [a0, a1, a2] =
    (if ((decide ((D.asI a1) < (0 : Int))) || (decide ((((D.asL a0)).length : Int) ≤ (D.asI a1)))) then
      some (2, [(D.int 0), (D.bool false)])
    else
      if (decide (0 ≤ (D.asI a1) ∧ (D.asI a1) < (((D.asL a0)).length : Int))) then
      if (!((((D.asL (at_ (D.asA (at_ (D.asL a0) (Int.toNat (D.asI a1)))) 1))).length : Int) == (((D.asL a2)).length : Int))) then
        some (2, [(D.int 0), (D.bool false)])
      else
        (loopL (fun s1 =>
            if (decide ((D.asI (at_ s1 0)) < (((D.asL a2)).length : Int))) then
              if (decide (0 ≤ (D.asI (at_ s1 0)) ∧ (D.asI (at_ s1 0)) < (((D.asL a2)).length : Int))) then
              if (decide (0 ≤ (D.asI (at_ s1 0)) ∧ (D.asI (at_ s1 0)) < (((D.asL (at_ (D.asA (at_ (D.asL a0) (Int.toNat (D.asI a1)))) 1))).length : Int))) then
              if (!((D.asI (at_ (D.asL a2) (Int.toNat (D.asI (at_ s1 0))))) == (D.asI (at_ (D.asL (at_ (D.asA (at_ (D.asL a0) (Int.toNat (D.asI a1)))) 1)) (Int.toNat (D.asI (at_ s1 0))))))) then
                some (2, [(D.int 0), (D.bool false)])
              else
                some (0, [(D.int (IntKind.wrap .i64 ((D.asI (at_ s1 0)) + (1 : Int))))])
              else none
              else none
            else
              some (983046, [])) [(D.int 0)]).bind fun o0 =>
        if o0.1 = 983046 then
          some (2, [(at_ (D.asA (at_ (D.asL a0) (Int.toNat (D.asI a1)))) 2), (D.bool true)])
        else some o0
      else none : Option Out) := by kernel_rfl
-- errata/errataref16.number
def h104 : List (Nat × List (Nat × Tm × Nat)) := [(16, [(1, ⟨[(3, (.dat (.int .i64) (.var 0))), (4, (.dat (.bool) (.var 1))), (0, (.dat (.int .i64) (.var 0))), (2, (.dat (.int .i64) (.int 0)))], []⟩, 1)]), (24, [(1, ⟨[(3, (.dat (.int .i64) (.var 0))), (11, (.dat (.bool) (.var 2))), (0, (.dat (.int .i64) (.var 0))), (2, (.dat (.int .i64) (.int 0)))], []⟩, 1)])]
def il104 : IL := (.bindc (.ite (.bin .ieq (.var 0) (.int 0)) (.out 1048580 [(.bin .ieq (.var 0) (.int 0))]) (.ite (.bin .ieq (.var 0) (.int 1)) (.out 1048580 [(.bin .ieq (.var 0) (.int 1))]) (.ite (.bin .ieq (.var 0) (.int 2)) (.out 1048580 [(.bin .ieq (.var 0) (.int 2))]) (.ite (.bin .ieq (.var 0) (.int 3)) (.out 1048580 [(.bin .ieq (.var 0) (.int 3))]) (.ite (.bin .ieq (.var 0) (.int 4)) (.out 1048580 [(.bin .ieq (.var 0) (.int 4))]) (.out 1048580 [(.bin .ieq (.var 0) (.int 5))])))))) 1048580 1 (.ite (.var 1) (.out 2 [(.int 0)]) (.bindc (.ite (.bin .ieq (.var 0) (.int 6)) (.out 1572868 [(.bin .ieq (.var 0) (.int 6))]) (.ite (.bin .ieq (.var 0) (.int 7)) (.out 1572868 [(.bin .ieq (.var 0) (.int 7))]) (.out 1572868 [(.bin .ieq (.var 0) (.int 20))]))) 1572868 1 (.ite (.var 2) (.out 2 [(.int 1)]) (.ite (.bin .ieq (.var 0) (.int 21)) (.out 2 [(.int 3)]) (.ite (.bin .ieq (.var 0) (.int 22)) (.out 2 [(.int (-1))]) (.ite (.bin .and (.bin .ilt (.int 5) (.var 0)) (.bin .ilt (.var 0) (.int 21))) (.out 2 [(.int 2)]) (.out 2 [(.int (-1))]))))))))
theorem d104 : decompF C ⟨[.int .i64], [.int .i64], [false]⟩ Tryd.f104 h104 = some il104 := by kernel_rfl
theorem e104 (R : Fns) (a0 : D) : den C.G R il104 [a0] =
    ((if ((D.asI a0) == (0 : Int)) then
        some (1048580, [(D.bool ((D.asI a0) == (0 : Int)))])
      else
        if ((D.asI a0) == (1 : Int)) then
          some (1048580, [(D.bool ((D.asI a0) == (1 : Int)))])
        else
          if ((D.asI a0) == (2 : Int)) then
            some (1048580, [(D.bool ((D.asI a0) == (2 : Int)))])
          else
            if ((D.asI a0) == (3 : Int)) then
              some (1048580, [(D.bool ((D.asI a0) == (3 : Int)))])
            else
              if ((D.asI a0) == (4 : Int)) then
                some (1048580, [(D.bool ((D.asI a0) == (4 : Int)))])
              else
                some (1048580, [(D.bool ((D.asI a0) == (5 : Int)))])).bind fun o0 =>
    if o0.1 = 1048580 then
      if (D.asB (at_ o0.2 0)) then
        some (2, [(D.int 0)])
      else
        (if ((D.asI a0) == (6 : Int)) then
            some (1572868, [(D.bool ((D.asI a0) == (6 : Int)))])
          else
            if ((D.asI a0) == (7 : Int)) then
              some (1572868, [(D.bool ((D.asI a0) == (7 : Int)))])
            else
              some (1572868, [(D.bool ((D.asI a0) == (20 : Int)))])).bind fun o1 =>
        if o1.1 = 1572868 then
          if (D.asB (at_ o1.2 0)) then
            some (2, [(D.int 1)])
          else
            if ((D.asI a0) == (21 : Int)) then
              some (2, [(D.int 3)])
            else
              if ((D.asI a0) == (22 : Int)) then
                some (2, [(D.int (-1))])
              else
                if ((decide ((5 : Int) < (D.asI a0))) && (decide ((D.asI a0) < (21 : Int)))) then
                  some (2, [(D.int 2)])
                else
                  some (2, [(D.int (-1))])
        else some o1
    else some o0 : Option Out) := by kernel_rfl
end Go.Proofs.YtlbckmllpciglaaDoor
