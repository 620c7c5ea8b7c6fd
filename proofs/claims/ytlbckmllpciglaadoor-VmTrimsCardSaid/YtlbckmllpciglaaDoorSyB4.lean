/- Some functions' texts, and what they mean. Printed by a program of this claim's author. -/
import Derived.Test.YtlbckmllpciglaaDoorSyA
set_option linter.unusedVariables false
set_option linter.unusedSimpArgs false
set_option linter.all false
namespace Go.Proofs.YtlbckmllpciglaaDoor
open Go Sy
set_option maxRecDepth 100000
-- errata/erratalaw27.small
def h6 : List (Nat × List (Nat × Tm × Nat)) := []
def il6 : IL := (.call [] 1 21 [(.int 1), (.int 2)] (.call [] 1 21 [(.int 5), (.int 4)] (.chk (.bin (.fits 34359738368) (.un .len .lnil) (.un .len (.bin .cons (.un .mkagg (.bin .cons (.int 3) (.bin .cons (.int 0) (.bin .cons (.int 0) (.bin .cons (.int 0) (.bin .cons (.int 0) (.bin .cons (.int 0) (.bin .cons (.str []) .lnil)))))))) (.bin .cons (.un .mkagg (.bin .cons (.int 3) (.bin .cons (.int 1) (.bin .cons (.int 0) (.bin .cons (.int 0) (.bin .cons (.int 0) (.bin .cons (.int 1) (.bin .cons (.str []) .lnil)))))))) .lnil)))) (.chk (.bin (.fits 34359738368) (.un .len (.bin .app .lnil (.bin .cons (.un .mkagg (.bin .cons (.int 3) (.bin .cons (.int 0) (.bin .cons (.int 0) (.bin .cons (.int 0) (.bin .cons (.int 0) (.bin .cons (.int 0) (.bin .cons (.str []) .lnil)))))))) (.bin .cons (.un .mkagg (.bin .cons (.int 3) (.bin .cons (.int 1) (.bin .cons (.int 0) (.bin .cons (.int 0) (.bin .cons (.int 0) (.bin .cons (.int 1) (.bin .cons (.str []) .lnil)))))))) .lnil)))) (.un .len (.bin .cons (.un .mkagg (.bin .cons (.int 8) (.bin .cons (.int 2) (.bin .cons (.int 0) (.bin .cons (.int 1) (.bin .cons (.int 0) (.bin .cons (.int 0) (.bin .cons (.str []) .lnil)))))))) .lnil))) (.chk (.bin (.fits 34359738368) (.un .len .lnil) (.un .len (.bin .cons (.un .mkagg (.bin .cons (.int 3) (.bin .cons (.int 0) (.bin .cons (.int 0) (.bin .cons (.int 0) (.bin .cons (.int 0) (.bin .cons (.int 0) (.bin .cons (.str []) .lnil)))))))) (.bin .cons (.un .mkagg (.bin .cons (.int 3) (.bin .cons (.int 1) (.bin .cons (.int 0) (.bin .cons (.int 0) (.bin .cons (.int 0) (.bin .cons (.int 1) (.bin .cons (.str []) .lnil)))))))) .lnil)))) (.chk (.bin (.fits 34359738368) (.un .len (.bin .app .lnil (.bin .cons (.un .mkagg (.bin .cons (.int 3) (.bin .cons (.int 0) (.bin .cons (.int 0) (.bin .cons (.int 0) (.bin .cons (.int 0) (.bin .cons (.int 0) (.bin .cons (.str []) .lnil)))))))) (.bin .cons (.un .mkagg (.bin .cons (.int 3) (.bin .cons (.int 1) (.bin .cons (.int 0) (.bin .cons (.int 0) (.bin .cons (.int 0) (.bin .cons (.int 1) (.bin .cons (.str []) .lnil)))))))) .lnil)))) (.un .len (.bin .cons (.un .mkagg (.bin .cons (.int 15) (.bin .cons (.int 2) (.bin .cons (.int 0) (.bin .cons (.int 1) (.bin .cons (.int 0) (.bin .cons (.int 0) (.bin .cons (.str []) .lnil)))))))) .lnil))) (.call [] 2 10 [(.un .mkagg (.bin .cons (.bin .snoc (.bin .app .lnil (.bin .cons (.un .mkagg (.bin .cons (.int 3) (.bin .cons (.int 0) (.bin .cons (.int 0) (.bin .cons (.int 0) (.bin .cons (.int 0) (.bin .cons (.int 0) (.bin .cons (.str []) .lnil)))))))) (.bin .cons (.un .mkagg (.bin .cons (.int 3) (.bin .cons (.int 1) (.bin .cons (.int 0) (.bin .cons (.int 0) (.bin .cons (.int 0) (.bin .cons (.int 1) (.bin .cons (.str []) .lnil)))))))) .lnil))) (.un .mkagg (.bin .cons (.int 8) (.bin .cons (.int 2) (.bin .cons (.int 0) (.bin .cons (.int 1) (.bin .cons (.int 0) (.bin .cons (.int 0) (.bin .cons (.str []) .lnil))))))))) (.bin .cons (.bin .cons (.int 0) (.bin .cons (.int 0) (.bin .cons (.int 0) .lnil))) (.bin .cons (.int 2) .lnil)))), (.bin .cons (.int 0) (.bin .cons (.int 0) .lnil)), (.bin .cons (.var 0) (.bin .cons (.var 1) .lnil))] (.call [] 2 13 [(.un .mkagg (.bin .cons (.bin .snoc (.bin .app .lnil (.bin .cons (.un .mkagg (.bin .cons (.int 3) (.bin .cons (.int 0) (.bin .cons (.int 0) (.bin .cons (.int 0) (.bin .cons (.int 0) (.bin .cons (.int 0) (.bin .cons (.str []) .lnil)))))))) (.bin .cons (.un .mkagg (.bin .cons (.int 3) (.bin .cons (.int 1) (.bin .cons (.int 0) (.bin .cons (.int 0) (.bin .cons (.int 0) (.bin .cons (.int 1) (.bin .cons (.str []) .lnil)))))))) .lnil))) (.un .mkagg (.bin .cons (.int 15) (.bin .cons (.int 2) (.bin .cons (.int 0) (.bin .cons (.int 1) (.bin .cons (.int 0) (.bin .cons (.int 0) (.bin .cons (.str []) .lnil))))))))) (.bin .cons (.bin .cons (.int 0) (.bin .cons (.int 0) (.bin .cons (.int 2) .lnil))) (.bin .cons (.int 2) .lnil)))), (.bin .cons (.int 0) (.bin .cons (.int 0) .lnil)), (.bin .cons (.var 0) (.bin .cons (.var 1) .lnil))] (.call [((.bin .and (.bin .ieq (.var 3) (.int 0)) (.bin .ieq (.var 5) (.int 0))), true)] 1 11 [(.var 2), (.bin .cons (.un .mkagg (.bin .cons (.int 0) (.bin .cons (.int 3) (.bin .cons (.str []) .lnil)))) (.bin .cons (.un .mkagg (.bin .cons (.int 0) (.bin .cons (.int 9) (.bin .cons (.str []) .lnil)))) .lnil))] (.chk (.tri .ite (.bin .and (.bin .and (.bin .and (.bin .ieq (.var 3) (.int 0)) (.bin .ieq (.var 5) (.int 0))) (.var 6)) (.bin .ieq (.un .len (.var 4)) (.int 1))) (.tri .cut (.int 0) (.int 1) (.un .len (.bin .cons (.var 0) (.bin .cons (.var 1) .lnil)))) (.bool true)) (.call [((.bin .and (.bin .and (.bin .and (.bin .ieq (.var 3) (.int 0)) (.bin .ieq (.var 5) (.int 0))) (.var 6)) (.bin .ieq (.un .len (.var 4)) (.int 1))), true)] 1 15 [(.var 4), (.bin .drop (.bin .take (.bin .cons (.var 0) (.bin .cons (.var 1) .lnil)) (.int 1)) (.int 0))] (.call [((.bin .and (.bin .and (.bin .and (.bin .and (.bin .ieq (.var 3) (.int 0)) (.bin .ieq (.var 5) (.int 0))) (.var 6)) (.bin .ieq (.un .len (.var 4)) (.int 1))) (.var 7)), true)] 1 18 [(.un .mkagg (.bin .cons (.bin .snoc (.bin .app .lnil (.bin .cons (.un .mkagg (.bin .cons (.int 3) (.bin .cons (.int 0) (.bin .cons (.int 0) (.bin .cons (.int 0) (.bin .cons (.int 0) (.bin .cons (.int 0) (.bin .cons (.str []) .lnil)))))))) (.bin .cons (.un .mkagg (.bin .cons (.int 3) (.bin .cons (.int 1) (.bin .cons (.int 0) (.bin .cons (.int 0) (.bin .cons (.int 0) (.bin .cons (.int 1) (.bin .cons (.str []) .lnil)))))))) .lnil))) (.un .mkagg (.bin .cons (.int 8) (.bin .cons (.int 2) (.bin .cons (.int 0) (.bin .cons (.int 1) (.bin .cons (.int 0) (.bin .cons (.int 0) (.bin .cons (.str []) .lnil))))))))) (.bin .cons (.bin .cons (.int 0) (.bin .cons (.int 0) (.bin .cons (.int 0) .lnil))) (.bin .cons (.int 2) .lnil)))), (.int 5)] (.out 2 [(.bin .and (.bin .and (.bin .and (.bin .and (.bin .and (.bin .ieq (.var 3) (.int 0)) (.bin .ieq (.var 5) (.int 0))) (.var 6)) (.bin .ieq (.un .len (.var 4)) (.int 1))) (.var 7)) (.bin .ieq (.var 8) (.int 15)))])))))))))))))
theorem d6 : decompF C ⟨[], [.bool], [false]⟩ Tryd.f6 h6 = some il6 := by kernel_rfl
theorem e6 (R : Fns) : den C.G R il6 [] =
    ((R 21 [(D.int 1), (D.int 2)]).bind fun r0 =>
    (R 21 [(D.int 5), (D.int 4)]).bind fun r1 =>
    if (D.asB (U2.ev (.fits 34359738368) (D.int ((([] : List D)).length : Int)) (D.int ((((D.agg ((D.int 3) :: ((D.int 0) :: ((D.int 0) :: ((D.int 0) :: ((D.int 0) :: ((D.int 0) :: ((D.str []) :: ([] : List D))))))))) :: ((D.agg ((D.int 3) :: ((D.int 1) :: ((D.int 0) :: ((D.int 0) :: ((D.int 0) :: ((D.int 1) :: ((D.str []) :: ([] : List D))))))))) :: ([] : List D)))).length : Int)))) then
    if (D.asB (U2.ev (.fits 34359738368) (D.int (((([] : List D) ++ ((D.agg ((D.int 3) :: ((D.int 0) :: ((D.int 0) :: ((D.int 0) :: ((D.int 0) :: ((D.int 0) :: ((D.str []) :: ([] : List D))))))))) :: ((D.agg ((D.int 3) :: ((D.int 1) :: ((D.int 0) :: ((D.int 0) :: ((D.int 0) :: ((D.int 1) :: ((D.str []) :: ([] : List D))))))))) :: ([] : List D))))).length : Int)) (D.int ((((D.agg ((D.int 8) :: ((D.int 2) :: ((D.int 0) :: ((D.int 1) :: ((D.int 0) :: ((D.int 0) :: ((D.str []) :: ([] : List D))))))))) :: ([] : List D))).length : Int)))) then
    if (D.asB (U2.ev (.fits 34359738368) (D.int ((([] : List D)).length : Int)) (D.int ((((D.agg ((D.int 3) :: ((D.int 0) :: ((D.int 0) :: ((D.int 0) :: ((D.int 0) :: ((D.int 0) :: ((D.str []) :: ([] : List D))))))))) :: ((D.agg ((D.int 3) :: ((D.int 1) :: ((D.int 0) :: ((D.int 0) :: ((D.int 0) :: ((D.int 1) :: ((D.str []) :: ([] : List D))))))))) :: ([] : List D)))).length : Int)))) then
    if (D.asB (U2.ev (.fits 34359738368) (D.int (((([] : List D) ++ ((D.agg ((D.int 3) :: ((D.int 0) :: ((D.int 0) :: ((D.int 0) :: ((D.int 0) :: ((D.int 0) :: ((D.str []) :: ([] : List D))))))))) :: ((D.agg ((D.int 3) :: ((D.int 1) :: ((D.int 0) :: ((D.int 0) :: ((D.int 0) :: ((D.int 1) :: ((D.str []) :: ([] : List D))))))))) :: ([] : List D))))).length : Int)) (D.int ((((D.agg ((D.int 15) :: ((D.int 2) :: ((D.int 0) :: ((D.int 1) :: ((D.int 0) :: ((D.int 0) :: ((D.str []) :: ([] : List D))))))))) :: ([] : List D))).length : Int)))) then
    (R 10 [(D.agg ((D.list ((([] : List D) ++ ((D.agg ((D.int 3) :: ((D.int 0) :: ((D.int 0) :: ((D.int 0) :: ((D.int 0) :: ((D.int 0) :: ((D.str []) :: ([] : List D))))))))) :: ((D.agg ((D.int 3) :: ((D.int 1) :: ((D.int 0) :: ((D.int 0) :: ((D.int 0) :: ((D.int 1) :: ((D.str []) :: ([] : List D))))))))) :: ([] : List D)))) ++ [(D.agg ((D.int 8) :: ((D.int 2) :: ((D.int 0) :: ((D.int 1) :: ((D.int 0) :: ((D.int 0) :: ((D.str []) :: ([] : List D)))))))))])) :: ((D.list ((D.int 0) :: ((D.int 0) :: ((D.int 0) :: ([] : List D))))) :: ((D.int 2) :: ([] : List D))))), (D.list ((D.int 0) :: ((D.int 0) :: ([] : List D)))), (D.list ((at_ r0 0) :: ((at_ r1 0) :: ([] : List D))))]).bind fun r2 =>
    (R 13 [(D.agg ((D.list ((([] : List D) ++ ((D.agg ((D.int 3) :: ((D.int 0) :: ((D.int 0) :: ((D.int 0) :: ((D.int 0) :: ((D.int 0) :: ((D.str []) :: ([] : List D))))))))) :: ((D.agg ((D.int 3) :: ((D.int 1) :: ((D.int 0) :: ((D.int 0) :: ((D.int 0) :: ((D.int 1) :: ((D.str []) :: ([] : List D))))))))) :: ([] : List D)))) ++ [(D.agg ((D.int 15) :: ((D.int 2) :: ((D.int 0) :: ((D.int 1) :: ((D.int 0) :: ((D.int 0) :: ((D.str []) :: ([] : List D)))))))))])) :: ((D.list ((D.int 0) :: ((D.int 0) :: ((D.int 2) :: ([] : List D))))) :: ((D.int 2) :: ([] : List D))))), (D.list ((D.int 0) :: ((D.int 0) :: ([] : List D)))), (D.list ((at_ r0 0) :: ((at_ r1 0) :: ([] : List D))))]).bind fun r3 =>
    callIf (((((D.asI (at_ r2 1)) == (0 : Int)) && ((D.asI (at_ r3 1)) == (0 : Int))) == true) && true) (R 11 [(at_ r2 0), (D.list ((D.agg ((D.int 0) :: ((D.int 3) :: ((D.str []) :: ([] : List D))))) :: ((D.agg ((D.int 0) :: ((D.int 9) :: ((D.str []) :: ([] : List D))))) :: ([] : List D))))]) fun r4 =>
    if (D.asB (if (((((D.asI (at_ r2 1)) == (0 : Int)) && ((D.asI (at_ r3 1)) == (0 : Int))) && (D.asB (at_ r4 0))) && ((((D.asL (at_ r3 0))).length : Int) == (1 : Int))) then (D.bool (decide (0 ≤ (0 : Int) ∧ (0 : Int) ≤ (1 : Int) ∧ (1 : Int) ≤ ((((at_ r0 0) :: ((at_ r1 0) :: ([] : List D)))).length : Int)))) else (D.bool true))) then
    callIf (((((((D.asI (at_ r2 1)) == (0 : Int)) && ((D.asI (at_ r3 1)) == (0 : Int))) && (D.asB (at_ r4 0))) && ((((D.asL (at_ r3 0))).length : Int) == (1 : Int))) == true) && true) (R 15 [(at_ r3 0), (D.list ((((((at_ r0 0) :: ((at_ r1 0) :: ([] : List D)))).take (Int.toNat (1 : Int)))).drop (Int.toNat (0 : Int))))]) fun r5 =>
    callIf ((((((((D.asI (at_ r2 1)) == (0 : Int)) && ((D.asI (at_ r3 1)) == (0 : Int))) && (D.asB (at_ r4 0))) && ((((D.asL (at_ r3 0))).length : Int) == (1 : Int))) && (D.asB (at_ r5 0))) == true) && true) (R 18 [(D.agg ((D.list ((([] : List D) ++ ((D.agg ((D.int 3) :: ((D.int 0) :: ((D.int 0) :: ((D.int 0) :: ((D.int 0) :: ((D.int 0) :: ((D.str []) :: ([] : List D))))))))) :: ((D.agg ((D.int 3) :: ((D.int 1) :: ((D.int 0) :: ((D.int 0) :: ((D.int 0) :: ((D.int 1) :: ((D.str []) :: ([] : List D))))))))) :: ([] : List D)))) ++ [(D.agg ((D.int 8) :: ((D.int 2) :: ((D.int 0) :: ((D.int 1) :: ((D.int 0) :: ((D.int 0) :: ((D.str []) :: ([] : List D)))))))))])) :: ((D.list ((D.int 0) :: ((D.int 0) :: ((D.int 0) :: ([] : List D))))) :: ((D.int 2) :: ([] : List D))))), (D.int 5)]) fun r6 =>
    some (2, [(D.bool (((((((D.asI (at_ r2 1)) == (0 : Int)) && ((D.asI (at_ r3 1)) == (0 : Int))) && (D.asB (at_ r4 0))) && ((((D.asL (at_ r3 0))).length : Int) == (1 : Int))) && (D.asB (at_ r5 0))) && ((D.asI (at_ r6 0)) == (15 : Int))))])
    else none
    else none
    else none
    else none
    else none : Option Out) := by kernel_rfl
-- errata/vm.Run
def h10 : List (Nat × List (Nat × Tm × Nat)) := []
def il10 : IL := (.call [] 2 9 [(.var 0), (.var 1)] (.ite (.un .not (.bin .ieq (.var 4) (.int 0))) (.out 2 [.lnil, (.var 4)]) (.call [] 1 27 [(.var 1), (.var 2)] (.ite (.un .not (.var 5)) (.out 2 [.lnil, (.int 16)]) (.call [] 1 28 [(.var 0), (.var 2)] (.out 2 [(.var 6), (.int 0)]))))))
theorem d10 : decompF C ⟨[.struct 25, .slice 3, .slice 37], [.slice 39, .int .i64], [true, false]⟩ Tryd.f10 h10 = some il10 := by kernel_rfl
theorem e10 (R : Fns) (a0 a1 a2 : D) : den C.G R il10 [a0, a1, a2] =
    ((R 9 [a0, a1]).bind fun r0 =>
    if (!((D.asI (at_ r0 1)) == (0 : Int))) then
      some (2, [(D.list []), (at_ r0 1)])
    else
      (R 27 [a1, a2]).bind fun r1 =>
      if (!(D.asB (at_ r1 0))) then
        some (2, [(D.list []), (D.int 16)])
      else
        (R 28 [a0, a2]).bind fun r2 =>
        some (2, [(at_ r2 0), (D.int 0)]) : Option Out) := by kernel_rfl
-- errata/errataref03.Same
def h11 : List (Nat × List (Nat × Tm × Nat)) := []
def il11 : IL := (.call [] 1 29 [(.var 0), (.var 1)] (.out 2 [(.bin .ieq (.var 2) (.int 0))]))
theorem d11 : decompF C ⟨[.slice 39, .slice 39], [.bool], [false]⟩ Tryd.f11 h11 = some il11 := by kernel_rfl
theorem e11 (R : Fns) (a0 a1 : D) : den C.G R il11 [a0, a1] =
    ((R 29 [a0, a1]).bind fun r0 =>
    some (2, [(D.bool ((D.asI (at_ r0 0)) == (0 : Int)))]) : Option Out) := by kernel_rfl
-- errata/code.Trim
def h19 : List (Nat × List (Nat × Tm × Nat)) := [(7, [(0, ⟨[(1, (.bptr 8 [] 25)), (13, (.sli 104 0 4)), (14, (.dat (.int .i64) (.un .len (.var 2)))), (15, (.dat (.int .i64) (.var 3))), (3, (.bptr 24 [] 25)), (2, (.bptr 16 [] 25))], [(8, (.box 25 (.dat (.struct 25) (.var 0)))), (104, (.arr 4 (.var 2) 0)), (24, (.box 25 (.agg 25 [(.sli 232 0 52), (.sli 64 0 3), (.dat (.int .i64) (.un (.fld 2) (.var 0)))]))), (232, (.arr 52 (.var 4) 0)), (64, (.arr 3 (.var 1) 0)), (16, (.box 25 (.agg 25 [(.nils 52), (.nils 3), (.dat (.int .i64) (.int 0))])))]⟩, 2), (3, ⟨[(3, (.bptr 24 [] 25)), (2, (.bptr 16 [] 25))], [(24, (.box 25 (.agg 25 [(.sli 232 0 52), (.sli 64 0 3), (.dat (.int .i64) (.un (.fld 2) (.var 0)))]))), (232, (.arr 52 (.var 3) 0)), (64, (.arr 3 (.var 1) 0)), (16, (.box 25 (.agg 25 [(.nils 52), (.nils 3), (.dat (.int .i64) (.int 0))])))]⟩, 1)]), (14, [(1, ⟨[(4, (.dat (.int .i64) (.var 3))), (1, (.bptr 8 [] 25)), (20, (.dat (.bool) (.bin .idx (.var 2) (.var 3)))), (5, (.dat (.bool) (.bin .idx (.var 2) (.var 3)))), (19, (.dat (.bool) (.bin .idx (.var 2) (.var 3)))), (17, (.dat (.int .i64) (.var 3))), (13, (.sli 104 0 4)), (16, (.dat (.bool) (.bin .ilt (.var 3) (.un .len (.var 2))))), (14, (.dat (.int .i64) (.un .len (.var 2)))), (15, (.dat (.int .i64) (.var 3))), (3, (.bptr 24 [] 25)), (2, (.bptr 16 [] 25))], [(8, (.box 25 (.dat (.struct 25) (.var 0)))), (104, (.arr 4 (.var 2) 0)), (24, (.box 25 (.agg 25 [(.sli 232 0 52), (.sli 64 0 3), (.dat (.int .i64) (.un (.fld 2) (.var 0)))]))), (232, (.arr 52 (.var 5) 0)), (64, (.arr 3 (.var 1) 0)), (16, (.box 25 (.agg 25 [(.nils 52), (.nils 3), (.dat (.int .i64) (.int 0))])))]⟩, 1)])]
def il19 : IL := (.call [] 1 33 [(.un (.fld 1) (.var 0))] (.call [] 1 34 [(.var 0)] (.bindc (.loop [(.int 0), .lnil] (.ite (.bin .ilt (.var 3) (.un .len (.var 2))) (.bindc (.chk (.bin .inb (.un .len (.var 2)) (.var 3)) (.ite (.bin .idx (.var 2) (.var 3)) (.chk (.bin .inb (.un .len (.un (.fld 0) (.var 0))) (.var 3)) (.chk (.bin (.fits 34359738368) (.un .len (.var 4)) (.un .len (.bin .cons (.bin .idx (.un (.fld 0) (.var 0)) (.var 3)) .lnil))) (.out 917508 [(.bin .snoc (.var 4) (.bin .idx (.un (.fld 0) (.var 0)) (.var 3)))]))) (.out 917508 [(.var 4)]))) 917508 1 (.out 0 [(.bin (.add .i64) (.var 3) (.int 1)), (.var 5)])) (.out 458758 [(.var 4)]))) 458758 1 (.out 2 [(.un .mkagg (.bin .cons (.var 3) (.bin .cons (.var 1) (.bin .cons (.un (.fld 2) (.var 0)) .lnil))))]))))
theorem d19 : decompF C ⟨[.struct 25], [.struct 25], [false]⟩ Tryd.f19 h19 = some il19 := by kernel_rfl
theorem e19 (R : Fns) (a0 : D) : den C.G R il19 [a0] =
    ((R 33 [(at_ (D.asA a0) 1)]).bind fun r0 =>
    (R 34 [a0]).bind fun r1 =>
    (loopL (fun s3 =>
        if (decide ((D.asI (at_ s3 0)) < (((D.asL (at_ r1 0))).length : Int))) then
          (if (decide (0 ≤ (D.asI (at_ s3 0)) ∧ (D.asI (at_ s3 0)) < (((D.asL (at_ r1 0))).length : Int))) then
            if (D.asB (at_ (D.asL (at_ r1 0)) (Int.toNat (D.asI (at_ s3 0))))) then
              if (decide (0 ≤ (D.asI (at_ s3 0)) ∧ (D.asI (at_ s3 0)) < (((D.asL (at_ (D.asA a0) 0))).length : Int))) then
              if (D.asB (U2.ev (.fits 34359738368) (D.int (((D.asL (at_ s3 1))).length : Int)) (D.int ((((at_ (D.asL (at_ (D.asA a0) 0)) (Int.toNat (D.asI (at_ s3 0)))) :: ([] : List D))).length : Int)))) then
              some (917508, [(D.list ((D.asL (at_ s3 1)) ++ [(at_ (D.asL (at_ (D.asA a0) 0)) (Int.toNat (D.asI (at_ s3 0))))]))])
              else none
              else none
            else
              some (917508, [(at_ s3 1)])
            else none).bind fun o4 =>
          if o4.1 = 917508 then
            some (0, [(D.int (IntKind.wrap .i64 ((D.asI (at_ s3 0)) + (1 : Int)))), (at_ o4.2 0)])
          else some o4
        else
          some (458758, [(at_ s3 1)])) [(D.int 0), (D.list [])]).bind fun o2 =>
    if o2.1 = 458758 then
      some (2, [(D.agg ((at_ o2.2 0) :: ((at_ r0 0) :: ((at_ (D.asA a0) 2) :: ([] : List D)))))])
    else some o2 : Option Out) := by kernel_rfl
-- slices.Clone[[]int,int]
def h33 : List (Nat × List (Nat × Tm × Nat)) := []
def il33 : IL := (.ite (.bin .ieq (.un .len (.var 0)) (.int 0)) (.both (.out 2 [.lnil]) (.chk (.bin (.fits 34359738368) (.un .len .lnil) (.un .len (.var 0))) (.out 2 [(.bin .app .lnil (.var 0))]))) (.chk (.bin (.fits 34359738368) (.un .len .lnil) (.un .len (.var 0))) (.out 2 [(.bin .app .lnil (.var 0))])))
theorem d33 : decompF C ⟨[.slice 3], [.slice 3], [true]⟩ Tryd.f33 h33 = some il33 := by kernel_rfl
theorem e33 (R : Fns) (a0 : D) : den C.G R il33 [a0] =
    (if ((((D.asL a0)).length : Int) == (0 : Int)) then
      bothO (some (2, [(D.list [])]))
        (if (D.asB (U2.ev (.fits 34359738368) (D.int ((([] : List D)).length : Int)) (D.int (((D.asL a0)).length : Int)))) then
        some (2, [(D.list (([] : List D) ++ (D.asL a0)))])
        else none)
    else
      if (D.asB (U2.ev (.fits 34359738368) (D.int ((([] : List D)).length : Int)) (D.int (((D.asL a0)).length : Int)))) then
      some (2, [(D.list (([] : List D) ++ (D.asL a0)))])
      else none : Option Out) := by kernel_rfl
-- errata/code.sources
def h35 : List (Nat × List (Nat × Tm × Nat)) := [(19, [(0, ⟨[(26, (.dat (.slice 52) (.un (.fld 0) (.var 0)))), (27, (.dat (.int .i64) (.un .len (.un (.fld 0) (.var 0))))), (28, (.dat (.int .i64) (.var 2))), (1, (.bptr 8 [] 25)), (4, (.sli 120 0 3)), (6, (.sli 408 0 23)), (3, (.dat (.int .i64) (.int 0))), (2, (.nils 23))], [(8, (.box 25 (.dat (.struct 25) (.var 0)))), (120, (.arr 3 (.var 3) 0)), (408, (.arr 23 (.var 4) 0))]⟩, 3), (5, ⟨[(1, (.bptr 8 [] 25)), (4, (.sli 120 0 3)), (6, (.sli 408 0 23)), (3, (.dat (.int .i64) (.int 0))), (2, (.nils 23))], [(8, (.box 25 (.dat (.struct 25) (.var 0)))), (120, (.arr 3 (.var 2) 0)), (408, (.arr 23 (.var 3) 0))]⟩, 2)]), (27, [(0, ⟨[(7, (.dat (.int .i64) (.var 2))), (9, (.sli 368 0 3)), (35, (.dat (.int .i64) (.un .len (.var 5)))), (36, (.dat (.int .i64) (.var 6))), (34, (.dat (.slice 3) (.var 5))), (33, (.dat (.struct 52) (.bin .idx (.un (.fld 0) (.var 0)) (.var 2)))), (32, (.dat (.struct 52) (.bin .idx (.un (.fld 0) (.var 0)) (.var 2)))), (8, (.bptr 64 [] 52)), (30, (.dat (.int .i64) (.var 2))), (31, (.dat (.ptr 52) (.un .mkptr (.bin .idx (.un (.fld 0) (.var 0)) (.var 2))))), (26, (.dat (.slice 52) (.un (.fld 0) (.var 0)))), (29, (.dat (.bool) (.bin .ilt (.var 2) (.un .len (.un (.fld 0) (.var 0)))))), (27, (.dat (.int .i64) (.un .len (.un (.fld 0) (.var 0))))), (28, (.dat (.int .i64) (.var 2))), (1, (.bptr 8 [] 25)), (4, (.sli 120 0 3)), (6, (.sli 408 0 23)), (3, (.dat (.int .i64) (.int 0))), (2, (.nils 23))], [(368, (.arr 3 (.var 7) 0)), (64, (.box 52 (.dat (.struct 52) (.bin .idx (.un (.fld 0) (.var 0)) (.var 2))))), (8, (.box 25 (.dat (.struct 25) (.var 0)))), (120, (.arr 3 (.var 3) 0)), (408, (.arr 23 (.var 4) 0))]⟩, 2), (7, ⟨[(7, (.dat (.int .i64) (.var 2))), (9, (.sli 368 0 3)), (37, (.dat (.bool) (.var 6))), (35, (.dat (.int .i64) (.un .len (.var 5)))), (36, (.dat (.int .i64) (.var 7))), (34, (.dat (.slice 3) (.var 5))), (33, (.dat (.struct 52) (.bin .idx (.un (.fld 0) (.var 0)) (.var 2)))), (32, (.dat (.struct 52) (.bin .idx (.un (.fld 0) (.var 0)) (.var 2)))), (8, (.bptr 64 [] 52)), (30, (.dat (.int .i64) (.var 2))), (31, (.dat (.ptr 52) (.un .mkptr (.bin .idx (.un (.fld 0) (.var 0)) (.var 2))))), (26, (.dat (.slice 52) (.un (.fld 0) (.var 0)))), (29, (.dat (.bool) (.bin .ilt (.var 2) (.un .len (.un (.fld 0) (.var 0)))))), (27, (.dat (.int .i64) (.un .len (.un (.fld 0) (.var 0))))), (28, (.dat (.int .i64) (.var 2))), (1, (.bptr 8 [] 25)), (4, (.sli 120 0 3)), (6, (.sli 408 0 23)), (3, (.dat (.int .i64) (.int 0))), (2, (.nils 23))], [(368, (.arr 3 (.var 8) 0)), (64, (.box 52 (.dat (.struct 52) (.bin .idx (.un (.fld 0) (.var 0)) (.var 2))))), (8, (.box 25 (.dat (.struct 25) (.var 0)))), (120, (.arr 3 (.var 3) 0)), (408, (.arr 23 (.var 4) 0))]⟩, 3)]), (7, [(0, ⟨[(17, (.dat (.int .i64) (.un .len (.bin .rep (.un .len (.un (.fld 1) (.var 0))) (.int 0))))), (18, (.dat (.int .i64) (.var 1))), (4, (.sli 120 0 3)), (1, (.bptr 8 [] 25)), (3, (.dat (.int .i64) (.int 0))), (2, (.nils 23))], [(120, (.arr 3 (.var 2) 0)), (8, (.box 25 (.dat (.struct 25) (.var 0))))]⟩, 2), (3, ⟨[(4, (.sli 120 0 3)), (1, (.bptr 8 [] 25)), (3, (.dat (.int .i64) (.int 0))), (2, (.nils 23))], [(120, (.arr 3 (.var 1) 0)), (8, (.box 25 (.dat (.struct 25) (.var 0))))]⟩, 1)])]
def il35 : IL := (.chk (.bin (.ble 34359738368) (.un .len (.un (.fld 1) (.var 0))) (.un .len (.un (.fld 1) (.var 0)))) (.bindc (.loop [(.int 0), (.bin .rep (.un .len (.un (.fld 1) (.var 0))) (.int 0))] (.ite (.bin .ilt (.var 1) (.un .len (.bin .rep (.un .len (.un (.fld 1) (.var 0))) (.int 0)))) (.chk (.bin .inb (.un .len (.var 2)) (.var 1)) (.out 0 [(.bin (.add .i64) (.var 1) (.int 1)), (.tri .set (.var 2) (.var 1) (.int (-1)))])) (.out 458758 [(.var 2)]))) 458758 1 (.bindc (.loop [(.int 0), (.var 1), .lnil] (.ite (.bin .ilt (.var 2) (.un .len (.un (.fld 0) (.var 0)))) (.chk (.bin .inb (.un .len (.un (.fld 0) (.var 0))) (.var 2)) (.call [] 1 39 [(.bin .idx (.un (.fld 0) (.var 0)) (.var 2))] (.bindc (.loop [(.int 0), .lnil] (.ite (.bin .ilt (.var 6) (.un .len (.var 5))) (.chk (.bin .inb (.un .len (.var 5)) (.var 6)) (.chk (.bin .inb (.un .len (.var 3)) (.bin .idx (.var 5) (.var 6))) (.chk (.bin (.fits 34359738368) (.un .len (.var 7)) (.un .len (.bin .cons (.bin .idx (.var 3) (.bin .idx (.var 5) (.var 6))) .lnil))) (.out 0 [(.bin (.add .i64) (.var 6) (.int 1)), (.bin .snoc (.var 7) (.bin .idx (.var 3) (.bin .idx (.var 5) (.var 6))))])))) (.out 1769482 [(.bin .ilt (.var 6) (.un .len (.var 5))), (.var 6), (.var 7)]))) 1769482 3 (.chk (.bin (.fits 34359738368) (.un .len (.var 4)) (.un .len (.bin .cons (.var 8) .lnil))) (.chk (.bin .inb (.un .len (.var 3)) (.un (.fld 1) (.bin .idx (.un (.fld 0) (.var 0)) (.var 2)))) (.out 0 [(.bin (.add .i64) (.var 2) (.int 1)), (.tri .set (.var 3) (.un (.fld 1) (.bin .idx (.un (.fld 0) (.var 0)) (.var 2))) (.var 2)), (.bin .snoc (.var 4) (.var 8))])))))) (.out 1245192 [(.var 3), (.var 4)]))) 1245192 2 (.chk (.bin .inb (.un .len (.var 2)) (.un (.fld 2) (.var 0))) (.out 2 [(.var 3), (.bin .idx (.var 2) (.un (.fld 2) (.var 0)))])))))
theorem d35 : decompF C ⟨[.struct 25], [.slice 23, .int .i64], [true, false]⟩ Tryd.f35 h35 = some il35 := by kernel_rfl
theorem e35 (R : Fns) (a0 : D) : den C.G R il35 [a0] =
    (if (D.asB (U2.ev (.ble 34359738368) (D.int (((D.asL (at_ (D.asA a0) 1))).length : Int)) (D.int (((D.asL (at_ (D.asA a0) 1))).length : Int)))) then
    (loopL (fun s1 =>
        if (decide ((D.asI (at_ s1 0)) < (((List.replicate (Int.toNat (((D.asL (at_ (D.asA a0) 1))).length : Int)) (D.int 0))).length : Int))) then
          if (decide (0 ≤ (D.asI (at_ s1 0)) ∧ (D.asI (at_ s1 0)) < (((D.asL (at_ s1 1))).length : Int))) then
          some (0, [(D.int (IntKind.wrap .i64 ((D.asI (at_ s1 0)) + (1 : Int)))), (D.list (((D.asL (at_ s1 1))).set (Int.toNat (D.asI (at_ s1 0))) (D.int (-1))))])
          else none
        else
          some (458758, [(at_ s1 1)])) [(D.int 0), (D.list (List.replicate (Int.toNat (((D.asL (at_ (D.asA a0) 1))).length : Int)) (D.int 0)))]).bind fun o0 =>
    if o0.1 = 458758 then
      (loopL (fun s2 =>
          if (decide ((D.asI (at_ s2 0)) < (((D.asL (at_ (D.asA a0) 0))).length : Int))) then
            if (decide (0 ≤ (D.asI (at_ s2 0)) ∧ (D.asI (at_ s2 0)) < (((D.asL (at_ (D.asA a0) 0))).length : Int))) then
            (R 39 [(at_ (D.asL (at_ (D.asA a0) 0)) (Int.toNat (D.asI (at_ s2 0))))]).bind fun r3 =>
            (loopL (fun s5 =>
                if (decide ((D.asI (at_ s5 0)) < (((D.asL (at_ r3 0))).length : Int))) then
                  if (decide (0 ≤ (D.asI (at_ s5 0)) ∧ (D.asI (at_ s5 0)) < (((D.asL (at_ r3 0))).length : Int))) then
                  if (decide (0 ≤ (D.asI (at_ (D.asL (at_ r3 0)) (Int.toNat (D.asI (at_ s5 0))))) ∧ (D.asI (at_ (D.asL (at_ r3 0)) (Int.toNat (D.asI (at_ s5 0))))) < (((D.asL (at_ s2 1))).length : Int))) then
                  if (D.asB (U2.ev (.fits 34359738368) (D.int (((D.asL (at_ s5 1))).length : Int)) (D.int ((((at_ (D.asL (at_ s2 1)) (Int.toNat (D.asI (at_ (D.asL (at_ r3 0)) (Int.toNat (D.asI (at_ s5 0))))))) :: ([] : List D))).length : Int)))) then
                  some (0, [(D.int (IntKind.wrap .i64 ((D.asI (at_ s5 0)) + (1 : Int)))), (D.list ((D.asL (at_ s5 1)) ++ [(at_ (D.asL (at_ s2 1)) (Int.toNat (D.asI (at_ (D.asL (at_ r3 0)) (Int.toNat (D.asI (at_ s5 0)))))))]))])
                  else none
                  else none
                  else none
                else
                  some (1769482, [(D.bool (decide ((D.asI (at_ s5 0)) < (((D.asL (at_ r3 0))).length : Int)))), (at_ s5 0), (at_ s5 1)])) [(D.int 0), (D.list [])]).bind fun o4 =>
            if o4.1 = 1769482 then
              if (D.asB (U2.ev (.fits 34359738368) (D.int (((D.asL (at_ s2 2))).length : Int)) (D.int ((((at_ o4.2 2) :: ([] : List D))).length : Int)))) then
              if (decide (0 ≤ (D.asI (at_ (D.asA (at_ (D.asL (at_ (D.asA a0) 0)) (Int.toNat (D.asI (at_ s2 0))))) 1)) ∧ (D.asI (at_ (D.asA (at_ (D.asL (at_ (D.asA a0) 0)) (Int.toNat (D.asI (at_ s2 0))))) 1)) < (((D.asL (at_ s2 1))).length : Int))) then
              some (0, [(D.int (IntKind.wrap .i64 ((D.asI (at_ s2 0)) + (1 : Int)))), (D.list (((D.asL (at_ s2 1))).set (Int.toNat (D.asI (at_ (D.asA (at_ (D.asL (at_ (D.asA a0) 0)) (Int.toNat (D.asI (at_ s2 0))))) 1))) (at_ s2 0))), (D.list ((D.asL (at_ s2 2)) ++ [(at_ o4.2 2)]))])
              else none
              else none
            else some o4
            else none
          else
            some (1245192, [(at_ s2 1), (at_ s2 2)])) [(D.int 0), (at_ o0.2 0), (D.list [])]).bind fun o1 =>
      if o1.1 = 1245192 then
        if (decide (0 ≤ (D.asI (at_ (D.asA a0) 2)) ∧ (D.asI (at_ (D.asA a0) 2)) < (((D.asL (at_ o1.2 0))).length : Int))) then
        some (2, [(at_ o1.2 1), (at_ (D.asL (at_ o1.2 0)) (Int.toNat (D.asI (at_ (D.asA a0) 2))))])
        else none
      else some o1
    else some o0
    else none : Option Out) := by kernel_rfl
-- errata/errataref25.Operands
def h49 : List (Nat × List (Nat × Tm × Nat)) := []
def il49 : IL := (.call [] 1 70 [(.un (.fld 0) (.var 0))] (.ite (.bin .seq (.var 1) (.str [])) (.out 2 [.lnil]) (.call [] 1 71 [(.un (.fld 0) (.var 0))] (.chk (.tri .cut (.int 0) (.var 2) (.un .len (.bin .cons (.un (.fld 2) (.var 0)) (.bin .cons (.un (.fld 3) (.var 0)) (.bin .cons (.un (.fld 4) (.var 0)) .lnil))))) (.out 2 [(.bin .drop (.bin .take (.bin .cons (.un (.fld 2) (.var 0)) (.bin .cons (.un (.fld 3) (.var 0)) (.bin .cons (.un (.fld 4) (.var 0)) .lnil))) (.var 2)) (.int 0))])))))
theorem d49 : decompF C ⟨[.struct 52], [.slice 3], [false]⟩ Tryd.f49 h49 = some il49 := by kernel_rfl
theorem e49 (R : Fns) (a0 : D) : den C.G R il49 [a0] =
    ((R 70 [(at_ (D.asA a0) 0)]).bind fun r0 =>
    if ((D.asS (at_ r0 0)) == []) then
      some (2, [(D.list [])])
    else
      (R 71 [(at_ (D.asA a0) 0)]).bind fun r1 =>
      if (decide (0 ≤ (0 : Int) ∧ (0 : Int) ≤ (D.asI (at_ r1 0)) ∧ (D.asI (at_ r1 0)) ≤ ((((at_ (D.asA a0) 2) :: ((at_ (D.asA a0) 3) :: ((at_ (D.asA a0) 4) :: ([] : List D))))).length : Int))) then
      some (2, [(D.list ((((((at_ (D.asA a0) 2) :: ((at_ (D.asA a0) 3) :: ((at_ (D.asA a0) 4) :: ([] : List D))))).take (Int.toNat (D.asI (at_ r1 0))))).drop (Int.toNat (0 : Int))))])
      else none : Option Out) := by kernel_rfl
-- errata/errataref25.Results
def h51 : List (Nat × List (Nat × Tm × Nat)) := [(9, [(0, ⟨[(2, (.dat (.slice 39) (.var 2))), (1, (.dat (.int .i64) (.var 1))), (7, (.sli 144 0 39)), (3, (.bptr 24 [] 25)), (9, (.dat (.int .i64) (.var 3))), (8, (.sli 568 0 39)), (6, (.nils 39))], [(144, (.arr 39 (.var 4) 0)), (24, (.box 25 (.dat (.struct 25) (.var 0)))), (568, (.arr 39 (.var 5) 0))]⟩, 3), (3, ⟨[(8, (.sli 568 0 39)), (6, (.nils 39))], [(568, (.arr 39 (.var 3) 0))]⟩, 1)]), (21, [(0, ⟨[(2, (.dat (.slice 39) (.var 2))), (1, (.dat (.int .i64) (.var 1))), (7, (.sli 144 0 39)), (12, (.dat (.slice 3) (.var 6))), (13, (.dat (.int .i64) (.var 7))), (39, (.dat (.slice 3) (.var 6))), (38, (.dat (.struct 52) (.bin .idx (.un (.fld 0) (.var 0)) (.var 3)))), (37, (.agg 75 [(.dat (.int .i64) (.un (.fld 0) (.bin .idx (.un (.fld 0) (.var 0)) (.var 3)))), (.dat (.int .i64) (.un (.fld 5) (.bin .idx (.un (.fld 0) (.var 0)) (.var 3)))), (.dat (.str) (.un (.fld 6) (.bin .idx (.un (.fld 0) (.var 0)) (.var 3)))), (.nils 75)])), (11, (.bptr 88 [] 75)), (36, (.dat (.str) (.un (.fld 6) (.bin .idx (.un (.fld 0) (.var 0)) (.var 3))))), (34, (.dat (.int .i64) (.un (.fld 5) (.bin .idx (.un (.fld 0) (.var 0)) (.var 3))))), (32, (.dat (.int .i64) (.un (.fld 0) (.bin .idx (.un (.fld 0) (.var 0)) (.var 3))))), (35, (.bptr 80 [6] 9)), (33, (.bptr 80 [5] 3)), (31, (.bptr 80 [0] 3)), (30, (.dat (.struct 52) (.bin .idx (.un (.fld 0) (.var 0)) (.var 3)))), (10, (.bptr 80 [] 52)), (29, (.dat (.ptr 52) (.un .mkptr (.bin .idx (.un (.fld 0) (.var 0)) (.var 3))))), (28, (.dat (.int .i64) (.var 3))), (27, (.dat (.slice 52) (.un (.fld 0) (.var 0)))), (26, (.bptr 24 [0] 22)), (23, (.dat (.bool) (.bin .ilt (.var 3) (.un .len (.un (.fld 0) (.var 0)))))), (22, (.dat (.int .i64) (.un .len (.un (.fld 0) (.var 0))))), (19, (.dat (.int .i64) (.var 3))), (21, (.dat (.slice 52) (.un (.fld 0) (.var 0)))), (20, (.bptr 24 [0] 22)), (3, (.bptr 24 [] 25)), (9, (.dat (.int .i64) (.var 3))), (8, (.sli 568 0 39)), (6, (.nils 39))], [(144, (.arr 39 (.var 4) 0)), (88, (.box 75 (.agg 75 [(.dat (.int .i64) (.un (.fld 0) (.bin .idx (.un (.fld 0) (.var 0)) (.var 3)))), (.dat (.int .i64) (.un (.fld 5) (.bin .idx (.un (.fld 0) (.var 0)) (.var 3)))), (.dat (.str) (.un (.fld 6) (.bin .idx (.un (.fld 0) (.var 0)) (.var 3)))), (.sli 456 0 75)]))), (456, (.arr 75 (.var 8) 0)), (80, (.box 52 (.dat (.struct 52) (.bin .idx (.un (.fld 0) (.var 0)) (.var 3))))), (24, (.box 25 (.dat (.struct 25) (.var 0)))), (568, (.arr 39 (.var 5) 0))]⟩, 2), (5, ⟨[(2, (.dat (.slice 39) (.var 2))), (1, (.dat (.int .i64) (.var 1))), (7, (.sli 144 0 39)), (43, (.dat (.bool) (.var 7))), (42, (.dat (.int .i64) (.un .len (.var 6)))), (40, (.dat (.int .i64) (.var 8))), (41, (.dat (.slice 3) (.var 6))), (12, (.dat (.slice 3) (.var 6))), (13, (.dat (.int .i64) (.var 9))), (39, (.dat (.slice 3) (.var 6))), (38, (.dat (.struct 52) (.bin .idx (.un (.fld 0) (.var 0)) (.var 3)))), (37, (.agg 75 [(.dat (.int .i64) (.un (.fld 0) (.bin .idx (.un (.fld 0) (.var 0)) (.var 3)))), (.dat (.int .i64) (.un (.fld 5) (.bin .idx (.un (.fld 0) (.var 0)) (.var 3)))), (.dat (.str) (.un (.fld 6) (.bin .idx (.un (.fld 0) (.var 0)) (.var 3)))), (.nils 75)])), (11, (.bptr 88 [] 75)), (36, (.dat (.str) (.un (.fld 6) (.bin .idx (.un (.fld 0) (.var 0)) (.var 3))))), (34, (.dat (.int .i64) (.un (.fld 5) (.bin .idx (.un (.fld 0) (.var 0)) (.var 3))))), (32, (.dat (.int .i64) (.un (.fld 0) (.bin .idx (.un (.fld 0) (.var 0)) (.var 3))))), (35, (.bptr 80 [6] 9)), (33, (.bptr 80 [5] 3)), (31, (.bptr 80 [0] 3)), (30, (.dat (.struct 52) (.bin .idx (.un (.fld 0) (.var 0)) (.var 3)))), (10, (.bptr 80 [] 52)), (29, (.dat (.ptr 52) (.un .mkptr (.bin .idx (.un (.fld 0) (.var 0)) (.var 3))))), (28, (.dat (.int .i64) (.var 3))), (27, (.dat (.slice 52) (.un (.fld 0) (.var 0)))), (26, (.bptr 24 [0] 22)), (23, (.dat (.bool) (.bin .ilt (.var 3) (.un .len (.un (.fld 0) (.var 0)))))), (22, (.dat (.int .i64) (.un .len (.un (.fld 0) (.var 0))))), (19, (.dat (.int .i64) (.var 3))), (21, (.dat (.slice 52) (.un (.fld 0) (.var 0)))), (20, (.bptr 24 [0] 22)), (3, (.bptr 24 [] 25)), (9, (.dat (.int .i64) (.var 3))), (8, (.sli 568 0 39)), (6, (.nils 39))], [(144, (.arr 39 (.var 4) 0)), (88, (.box 75 (.agg 75 [(.dat (.int .i64) (.un (.fld 0) (.bin .idx (.un (.fld 0) (.var 0)) (.var 3)))), (.dat (.int .i64) (.un (.fld 5) (.bin .idx (.un (.fld 0) (.var 0)) (.var 3)))), (.dat (.str) (.un (.fld 6) (.bin .idx (.un (.fld 0) (.var 0)) (.var 3)))), (.sli 456 0 75)]))), (456, (.arr 75 (.var 10) 0)), (80, (.box 52 (.dat (.struct 52) (.bin .idx (.un (.fld 0) (.var 0)) (.var 3))))), (24, (.box 25 (.dat (.struct 25) (.var 0)))), (568, (.arr 39 (.var 5) 0))]⟩, 4)])]
def il51 : IL := (.chk (.bin (.ble 34359738368) (.un .len (.un (.fld 1) (.var 0))) (.un .len (.un (.fld 1) (.var 0)))) (.bindc (.loop [(.int 0), (.bin .rep (.un .len (.un (.fld 1) (.var 0))) (.un .mkagg (.bin .cons (.int 0) (.bin .cons (.int 0) (.bin .cons (.str []) .lnil))))), .lnil] (.ite (.bin .ilt (.var 3) (.un .len (.un (.fld 0) (.var 0)))) (.chk (.bin .inb (.un .len (.un (.fld 0) (.var 0))) (.var 3)) (.call [] 1 49 [(.bin .idx (.un (.fld 0) (.var 0)) (.var 3))] (.bindc (.loop [(.int 0), .lnil] (.ite (.bin .ilt (.var 7) (.un .len (.var 6))) (.chk (.bin .inb (.un .len (.var 6)) (.var 7)) (.chk (.bin .inb (.un .len (.var 4)) (.bin .idx (.var 6) (.var 7))) (.call [] 1 73 [(.bin .idx (.var 4) (.bin .idx (.var 6) (.var 7)))] (.chk (.bin (.fits 34359738368) (.un .len (.var 8)) (.un .len (.bin .cons (.var 9) .lnil))) (.out 0 [(.bin (.add .i64) (.var 7) (.int 1)), (.bin .snoc (.var 8) (.var 9))]))))) (.out 1376264 [(.bin .ilt (.var 7) (.un .len (.var 6))), (.var 7), (.var 7), (.var 8)]))) 1376264 4 (.call [] 1 74 [.lnil, (.un .mkagg (.bin .cons (.un (.fld 0) (.bin .idx (.un (.fld 0) (.var 0)) (.var 3))) (.bin .cons (.un (.fld 5) (.bin .idx (.un (.fld 0) (.var 0)) (.var 3))) (.bin .cons (.un (.fld 6) (.bin .idx (.un (.fld 0) (.var 0)) (.var 3))) (.bin .cons (.var 10) .lnil))))), (.var 1), (.var 2)] (.chk (.bin .inb (.un .len (.var 4)) (.un (.fld 1) (.bin .idx (.un (.fld 0) (.var 0)) (.var 3)))) (.chk (.bin (.fits 34359738368) (.un .len (.var 5)) (.un .len (.bin .cons (.var 11) .lnil))) (.out 0 [(.bin (.add .i64) (.var 3) (.int 1)), (.tri .set (.var 4) (.un (.fld 1) (.bin .idx (.un (.fld 0) (.var 0)) (.var 3))) (.var 11)), (.bin .snoc (.var 5) (.var 11))]))))))) (.out 589830 [(.var 5)]))) 589830 1 (.out 2 [(.var 3)])))
theorem d51 : decompF C ⟨[.struct 25, .int .i64, .slice 39], [.slice 39], [true]⟩ Tryd.f51 h51 = some il51 := by kernel_rfl
theorem e51 (R : Fns) (a0 a1 a2 : D) : den C.G R il51 [a0, a1, a2] =
    (if (D.asB (U2.ev (.ble 34359738368) (D.int (((D.asL (at_ (D.asA a0) 1))).length : Int)) (D.int (((D.asL (at_ (D.asA a0) 1))).length : Int)))) then
    (loopL (fun s1 =>
        if (decide ((D.asI (at_ s1 0)) < (((D.asL (at_ (D.asA a0) 0))).length : Int))) then
          if (decide (0 ≤ (D.asI (at_ s1 0)) ∧ (D.asI (at_ s1 0)) < (((D.asL (at_ (D.asA a0) 0))).length : Int))) then
          (R 49 [(at_ (D.asL (at_ (D.asA a0) 0)) (Int.toNat (D.asI (at_ s1 0))))]).bind fun r2 =>
          (loopL (fun s4 =>
              if (decide ((D.asI (at_ s4 0)) < (((D.asL (at_ r2 0))).length : Int))) then
                if (decide (0 ≤ (D.asI (at_ s4 0)) ∧ (D.asI (at_ s4 0)) < (((D.asL (at_ r2 0))).length : Int))) then
                if (decide (0 ≤ (D.asI (at_ (D.asL (at_ r2 0)) (Int.toNat (D.asI (at_ s4 0))))) ∧ (D.asI (at_ (D.asL (at_ r2 0)) (Int.toNat (D.asI (at_ s4 0))))) < (((D.asL (at_ s1 1))).length : Int))) then
                (R 73 [(at_ (D.asL (at_ s1 1)) (Int.toNat (D.asI (at_ (D.asL (at_ r2 0)) (Int.toNat (D.asI (at_ s4 0)))))))]).bind fun r5 =>
                if (D.asB (U2.ev (.fits 34359738368) (D.int (((D.asL (at_ s4 1))).length : Int)) (D.int ((((at_ r5 0) :: ([] : List D))).length : Int)))) then
                some (0, [(D.int (IntKind.wrap .i64 ((D.asI (at_ s4 0)) + (1 : Int)))), (D.list ((D.asL (at_ s4 1)) ++ [(at_ r5 0)]))])
                else none
                else none
                else none
              else
                some (1376264, [(D.bool (decide ((D.asI (at_ s4 0)) < (((D.asL (at_ r2 0))).length : Int)))), (at_ s4 0), (at_ s4 0), (at_ s4 1)])) [(D.int 0), (D.list [])]).bind fun o3 =>
          if o3.1 = 1376264 then
            (R 74 [(D.list []), (D.agg ((at_ (D.asA (at_ (D.asL (at_ (D.asA a0) 0)) (Int.toNat (D.asI (at_ s1 0))))) 0) :: ((at_ (D.asA (at_ (D.asL (at_ (D.asA a0) 0)) (Int.toNat (D.asI (at_ s1 0))))) 5) :: ((at_ (D.asA (at_ (D.asL (at_ (D.asA a0) 0)) (Int.toNat (D.asI (at_ s1 0))))) 6) :: ((at_ o3.2 3) :: ([] : List D)))))), a1, a2]).bind fun r4 =>
            if (decide (0 ≤ (D.asI (at_ (D.asA (at_ (D.asL (at_ (D.asA a0) 0)) (Int.toNat (D.asI (at_ s1 0))))) 1)) ∧ (D.asI (at_ (D.asA (at_ (D.asL (at_ (D.asA a0) 0)) (Int.toNat (D.asI (at_ s1 0))))) 1)) < (((D.asL (at_ s1 1))).length : Int))) then
            if (D.asB (U2.ev (.fits 34359738368) (D.int (((D.asL (at_ s1 2))).length : Int)) (D.int ((((at_ r4 0) :: ([] : List D))).length : Int)))) then
            some (0, [(D.int (IntKind.wrap .i64 ((D.asI (at_ s1 0)) + (1 : Int)))), (D.list (((D.asL (at_ s1 1))).set (Int.toNat (D.asI (at_ (D.asA (at_ (D.asL (at_ (D.asA a0) 0)) (Int.toNat (D.asI (at_ s1 0))))) 1))) (at_ r4 0))), (D.list ((D.asL (at_ s1 2)) ++ [(at_ r4 0)]))])
            else none
            else none
          else some o3
          else none
        else
          some (589830, [(at_ s1 2)])) [(D.int 0), (D.list (List.replicate (Int.toNat (((D.asL (at_ (D.asA a0) 1))).length : Int)) (D.agg ((D.int 0) :: ((D.int 0) :: ((D.str []) :: ([] : List D))))))), (D.list [])]).bind fun o0 =>
    if o0.1 = 589830 then
      some (2, [(at_ o0.2 0)])
    else some o0
    else none : Option Out) := by kernel_rfl
-- (*errata/vm.machine).source$1
def h61 : List (Nat × List (Nat × Tm × Nat)) := []
def il61 : IL := (.chk (.un .isptr (.var 1)) (.chk (.un .isptr (.var 2)) (.ite (.bin .ieq (.un (.fld 0) (.un .deref (.var 1))) (.int 0)) (.call [] 1 62 [(.un (.fld 5) (.un .deref (.var 1)))] (.out 2 [(.var 3)])) (.ite (.bin .ieq (.un (.fld 0) (.un .deref (.var 1))) (.int 2)) (.call [] 1 63 [(.bin .ieq (.un (.fld 5) (.un .deref (.var 1))) (.int 1))] (.out 2 [(.var 3)])) (.ite (.bin .ieq (.un (.fld 0) (.un .deref (.var 1))) (.int 1)) (.call [] 1 64 [(.un (.fld 6) (.un .deref (.var 1)))] (.out 2 [(.var 3)])) (.ite (.bin .ieq (.un (.fld 0) (.un .deref (.var 1))) (.int 3)) (.chk (.un .isptr (.un .deref (.var 2))) (.chk (.bin .inb (.un .len (.un (.fld 0) (.un .deref (.un .deref (.var 2))))) (.var 0)) (.chk (.bin .inb (.un .len (.un (.fld 1) (.bin .idx (.un (.fld 0) (.un .deref (.un .deref (.var 2)))) (.var 0)))) (.un (.fld 5) (.un .deref (.var 1)))) (.out 2 [(.bin .idx (.un (.fld 1) (.bin .idx (.un (.fld 0) (.un .deref (.un .deref (.var 2)))) (.var 0))) (.un (.fld 5) (.un .deref (.var 1))))])))) (.chk (.un .isptr (.un .deref (.var 2))) (.chk (.bin .inb (.un .len (.un (.fld 0) (.un .deref (.un .deref (.var 2))))) (.var 0)) (.call [] 1 62 [(.un (.fld 0) (.bin .idx (.un (.fld 0) (.un .deref (.un .deref (.var 2)))) (.var 0)))] (.out 2 [(.var 3)]))))))))))
theorem d61 : decompF C ⟨[.int .i64, .ptr 52, .ptr 78], [.struct 39], [false]⟩ Tryd.f61 h61 = some il61 := by kernel_rfl
theorem e61 (R : Fns) (a0 a1 a2 : D) : den C.G R il61 [a0, a1, a2] =
    (if (D.isP a1) then
    if (D.isP a2) then
    if ((D.asI (at_ (D.asA (D.asP a1)) 0)) == (0 : Int)) then
      (R 62 [(at_ (D.asA (D.asP a1)) 5)]).bind fun r0 =>
      some (2, [(at_ r0 0)])
    else
      if ((D.asI (at_ (D.asA (D.asP a1)) 0)) == (2 : Int)) then
        (R 63 [(D.bool ((D.asI (at_ (D.asA (D.asP a1)) 5)) == (1 : Int)))]).bind fun r0 =>
        some (2, [(at_ r0 0)])
      else
        if ((D.asI (at_ (D.asA (D.asP a1)) 0)) == (1 : Int)) then
          (R 64 [(at_ (D.asA (D.asP a1)) 6)]).bind fun r0 =>
          some (2, [(at_ r0 0)])
        else
          if ((D.asI (at_ (D.asA (D.asP a1)) 0)) == (3 : Int)) then
            if (D.isP (D.asP a2)) then
            if (decide (0 ≤ (D.asI a0) ∧ (D.asI a0) < (((D.asL (at_ (D.asA (D.asP (D.asP a2))) 0))).length : Int))) then
            if (decide (0 ≤ (D.asI (at_ (D.asA (D.asP a1)) 5)) ∧ (D.asI (at_ (D.asA (D.asP a1)) 5)) < (((D.asL (at_ (D.asA (at_ (D.asL (at_ (D.asA (D.asP (D.asP a2))) 0)) (Int.toNat (D.asI a0)))) 1))).length : Int))) then
            some (2, [(at_ (D.asL (at_ (D.asA (at_ (D.asL (at_ (D.asA (D.asP (D.asP a2))) 0)) (Int.toNat (D.asI a0)))) 1)) (Int.toNat (D.asI (at_ (D.asA (D.asP a1)) 5))))])
            else none
            else none
            else none
          else
            if (D.isP (D.asP a2)) then
            if (decide (0 ≤ (D.asI a0) ∧ (D.asI a0) < (((D.asL (at_ (D.asA (D.asP (D.asP a2))) 0))).length : Int))) then
            (R 62 [(at_ (D.asA (at_ (D.asL (at_ (D.asA (D.asP (D.asP a2))) 0)) (Int.toNat (D.asI a0)))) 0)]).bind fun r0 =>
            some (2, [(at_ r0 0)])
            else none
            else none
    else none
    else none : Option Out) := by kernel_rfl
-- errata/value.Bool
def h63 : List (Nat × List (Nat × Tm × Nat)) := []
def il63 : IL := (.ite (.var 0) (.out 2 [(.un .mkagg (.bin .cons (.int 2) (.bin .cons (.int 1) (.bin .cons (.str []) .lnil))))]) (.out 2 [(.un .mkagg (.bin .cons (.int 2) (.bin .cons (.int 0) (.bin .cons (.str []) .lnil))))]))
theorem d63 : decompF C ⟨[.bool], [.struct 39], [false]⟩ Tryd.f63 h63 = some il63 := by kernel_rfl
theorem e63 (R : Fns) (a0 : D) : den C.G R il63 [a0] =
    (if (D.asB a0) then
      some (2, [(D.agg ((D.int 2) :: ((D.int 1) :: ((D.str []) :: ([] : List D)))))])
    else
      some (2, [(D.agg ((D.int 2) :: ((D.int 0) :: ((D.str []) :: ([] : List D)))))]) : Option Out) := by kernel_rfl
-- errata/expr.levels
def h77 : List (Nat × List (Nat × Tm × Nat)) := [(7, [(0, ⟨[(7, (.dat (.slice 75) (.un (.fld 3) (.var 0)))), (8, (.dat (.int .i64) (.un .len (.un (.fld 3) (.var 0))))), (9, (.dat (.int .i64) (.var 1))), (3, (.dat (.int .i64) (.var 2))), (2, (.dat (.int .i64) (.int 0)))], []⟩, 2), (3, ⟨[(3, (.dat (.int .i64) (.var 1))), (2, (.dat (.int .i64) (.int 0)))], []⟩, 1)])]
def il77 : IL := (.bindc (.loop [(.int 0), (.int 0)] (.ite (.bin .ilt (.var 1) (.un .len (.un (.fld 3) (.var 0)))) (.chk (.bin .inb (.un .len (.un (.fld 3) (.var 0))) (.var 1)) (.call [] 1 77 [(.bin .idx (.un (.fld 3) (.var 0)) (.var 1))] (.out 0 [(.bin (.add .i64) (.var 1) (.int 1)), (.bin .imax (.var 2) (.var 3))]))) (.out 458758 [(.var 2)]))) 458758 1 (.out 2 [(.bin (.add .i64) (.var 1) (.int 1))]))
theorem d77 : decompF C ⟨[.struct 75], [.int .i64], [false]⟩ Tryd.f77 h77 = some il77 := by kernel_rfl
theorem e77 (R : Fns) (a0 : D) : den C.G R il77 [a0] =
    ((loopL (fun s1 =>
        if (decide ((D.asI (at_ s1 0)) < (((D.asL (at_ (D.asA a0) 3))).length : Int))) then
          if (decide (0 ≤ (D.asI (at_ s1 0)) ∧ (D.asI (at_ s1 0)) < (((D.asL (at_ (D.asA a0) 3))).length : Int))) then
          (R 77 [(at_ (D.asL (at_ (D.asA a0) 3)) (Int.toNat (D.asI (at_ s1 0))))]).bind fun r2 =>
          some (0, [(D.int (IntKind.wrap .i64 ((D.asI (at_ s1 0)) + (1 : Int)))), (D.int (if (D.asI (at_ r2 0)) > (D.asI (at_ s1 1)) then (D.asI (at_ r2 0)) else (D.asI (at_ s1 1))))])
          else none
        else
          some (458758, [(at_ s1 1)])) [(D.int 0), (D.int 0)]).bind fun o0 =>
    if o0.1 = 458758 then
      some (2, [(D.int (IntKind.wrap .i64 ((D.asI (at_ o0.2 0)) + (1 : Int))))])
    else some o0 : Option Out) := by kernel_rfl
-- slices.ContainsFunc[[]errata/api.Value,errata/api.Value]
def h79 : List (Nat × List (Nat × Tm × Nat)) := []
def il79 : IL := (.call [] 1 92 [(.var 0), (.var 1)] (.out 2 [(.bin .ile (.int 0) (.var 2))]))
theorem d79 : decompF C ⟨[.slice 39, .func 88], [.bool], [false]⟩ Tryd.f79 h79 = some il79 := by kernel_rfl
theorem e79 (R : Fns) (a0 a1 : D) : den C.G R il79 [a0, a1] =
    ((R 92 [a0, a1]).bind fun r0 =>
    some (2, [(D.bool (decide ((0 : Int) ≤ (D.asI (at_ r0 0)))))]) : Option Out) := by kernel_rfl
-- cmp.Or[int]
def h82 : List (Nat × List (Nat × Tm × Nat)) := [(7, [(0, ⟨[(6, (.dat (.slice 3) (.var 0))), (7, (.dat (.int .i64) (.un .len (.var 0)))), (8, (.dat (.int .i64) (.var 1))), (3, (.dat (.int .i64) (.int 0))), (2, (.dat (.int .i64) (.int 0)))], []⟩, 1), (3, ⟨[(3, (.dat (.int .i64) (.int 0))), (2, (.dat (.int .i64) (.int 0)))], []⟩, 0)])]
def il82 : IL := (.bindc (.loop [(.int 0)] (.ite (.bin .ilt (.var 1) (.un .len (.var 0))) (.chk (.bin .inb (.un .len (.var 0)) (.var 1)) (.ite (.un .not (.bin .ieq (.bin .idx (.var 0) (.var 1)) (.int 0))) (.out 2 [(.bin .idx (.var 0) (.var 1))]) (.out 0 [(.bin (.add .i64) (.var 1) (.int 1))]))) (.out 458758 []))) 458758 0 (.out 2 [(.int 0)]))
theorem d82 : decompF C ⟨[.slice 3], [.int .i64], [false]⟩ Tryd.f82 h82 = some il82 := by kernel_rfl
theorem e82 (R : Fns) (a0 : D) : den C.G R il82 [a0] =
    ((loopL (fun s1 =>
        if (decide ((D.asI (at_ s1 0)) < (((D.asL a0)).length : Int))) then
          if (decide (0 ≤ (D.asI (at_ s1 0)) ∧ (D.asI (at_ s1 0)) < (((D.asL a0)).length : Int))) then
          if (!((D.asI (at_ (D.asL a0) (Int.toNat (D.asI (at_ s1 0))))) == (0 : Int))) then
            some (2, [(at_ (D.asL a0) (Int.toNat (D.asI (at_ s1 0))))])
          else
            some (0, [(D.int (IntKind.wrap .i64 ((D.asI (at_ s1 0)) + (1 : Int))))])
          else none
        else
          some (458758, [])) [(D.int 0)]).bind fun o0 =>
    if o0.1 = 458758 then
      some (2, [(D.int 0)])
    else some o0 : Option Out) := by kernel_rfl
-- errata/errataref16.Right
def h86 : List (Nat × List (Nat × Tm × Nat)) := [(5, [(0, ⟨[(3, (.dat (.int .i64) (.var 1))), (0, (.dat (.slice 107) (.var 0))), (2, (.dat (.bool) (.bool false)))], []⟩, 1), (3, ⟨[(0, (.dat (.slice 107) (.var 0))), (2, (.dat (.bool) (.bool false)))], []⟩, 0)]), (13, [(0, ⟨[(5, (.dat (.int .i64) (.var 2))), (21, (.dat (.struct 107) (.bin .idx (.var 0) (.var 1)))), (4, (.bptr 32 [] 107)), (20, (.dat (.ptr 107) (.un .mkptr (.bin .idx (.var 0) (.var 1))))), (19, (.dat (.int .i64) (.var 1))), (18, (.dat (.slice 107) (.var 0))), (15, (.dat (.bool) (.bin .and (.bin .ilt (.var 1) (.un .len (.var 0))) (.bin .ile (.var 1) (.int 20))))), (12, (.dat (.bool) (.bin .ilt (.var 1) (.un .len (.var 0))))), (11, (.dat (.bool) (.bin .ilt (.var 1) (.un .len (.var 0))))), (10, (.dat (.int .i64) (.un .len (.var 0)))), (8, (.dat (.int .i64) (.var 1))), (9, (.dat (.slice 107) (.var 0))), (3, (.dat (.int .i64) (.var 1))), (0, (.dat (.slice 107) (.var 0))), (2, (.dat (.bool) (.bool false)))], [(32, (.box 107 (.dat (.struct 107) (.bin .idx (.var 0) (.var 1)))))]⟩, 1), (5, ⟨[(26, (.dat (.bool) (.var 2))), (25, (.dat (.int .i64) (.un .len (.un (.fld 1) (.bin .idx (.var 0) (.var 1)))))), (22, (.dat (.int .i64) (.var 3))), (24, (.dat (.slice 3) (.un (.fld 1) (.bin .idx (.var 0) (.var 1))))), (23, (.bptr 32 [1] 23)), (5, (.dat (.int .i64) (.var 4))), (21, (.dat (.struct 107) (.bin .idx (.var 0) (.var 1)))), (4, (.bptr 32 [] 107)), (20, (.dat (.ptr 107) (.un .mkptr (.bin .idx (.var 0) (.var 1))))), (19, (.dat (.int .i64) (.var 1))), (18, (.dat (.slice 107) (.var 0))), (15, (.dat (.bool) (.bin .and (.bin .ilt (.var 1) (.un .len (.var 0))) (.bin .ile (.var 1) (.int 20))))), (12, (.dat (.bool) (.bin .ilt (.var 1) (.un .len (.var 0))))), (11, (.dat (.bool) (.bin .ilt (.var 1) (.un .len (.var 0))))), (10, (.dat (.int .i64) (.un .len (.var 0)))), (8, (.dat (.int .i64) (.var 1))), (9, (.dat (.slice 107) (.var 0))), (3, (.dat (.int .i64) (.var 1))), (0, (.dat (.slice 107) (.var 0))), (2, (.dat (.bool) (.bool false)))], [(32, (.box 107 (.dat (.struct 107) (.bin .idx (.var 0) (.var 1)))))]⟩, 3)])]
def il86 : IL := (.bindc (.loop [(.int 0)] (.ite (.bin .and (.bin .ilt (.var 1) (.un .len (.var 0))) (.bin .ile (.var 1) (.int 20))) (.chk (.bin .inb (.un .len (.var 0)) (.var 1)) (.bindc (.loop [(.int 0)] (.ite (.bin .ilt (.var 2) (.un .len (.un (.fld 1) (.bin .idx (.var 0) (.var 1))))) (.chk (.bin .inb (.un .len (.un (.fld 1) (.bin .idx (.var 0) (.var 1)))) (.var 2)) (.call [] 1 95 [(.bin .idx (.un (.fld 1) (.bin .idx (.var 0) (.var 1))) (.var 2))] (.ite (.un .not (.var 3)) (.out 2 [(.bool false)]) (.out 0 [(.bin (.add .i64) (.var 2) (.int 1))])))) (.out 851976 [(.bin .ilt (.var 2) (.un .len (.un (.fld 1) (.bin .idx (.var 0) (.var 1))))), (.var 2), (.var 2)]))) 851976 3 (.chk (.tri .cut (.int 0) (.var 1) (.un .len (.var 0))) (.call [] 2 87 [(.bin .drop (.bin .take (.var 0) (.var 1)) (.int 0)), .lnil, (.un (.fld 1) (.bin .idx (.var 0) (.var 1))), (.un (.fld 3) (.bin .idx (.var 0) (.var 1)))] (.ite (.bin .or (.bin .or (.un .not (.var 6)) (.un .not (.bin .ieq (.var 5) (.un (.fld 2) (.bin .idx (.var 0) (.var 1)))))) (.bin .ilt (.int 6) (.un .len (.un (.fld 1) (.bin .idx (.var 0) (.var 1)))))) (.out 2 [(.bool false)]) (.out 0 [(.bin (.add .i64) (.var 1) (.int 1))])))))) (.out 327686 []))) 327686 0 (.out 2 [(.bin .ile (.un .len (.var 0)) (.int 20))]))
theorem d86 : decompF C ⟨[.slice 107], [.bool], [false]⟩ Tryd.f86 h86 = some il86 := by kernel_rfl
theorem e86 (R : Fns) (a0 : D) : den C.G R il86 [a0] =
    ((loopL (fun s1 =>
        if ((decide ((D.asI (at_ s1 0)) < (((D.asL a0)).length : Int))) && (decide ((D.asI (at_ s1 0)) ≤ (20 : Int)))) then
          if (decide (0 ≤ (D.asI (at_ s1 0)) ∧ (D.asI (at_ s1 0)) < (((D.asL a0)).length : Int))) then
          (loopL (fun s3 =>
              if (decide ((D.asI (at_ s3 0)) < (((D.asL (at_ (D.asA (at_ (D.asL a0) (Int.toNat (D.asI (at_ s1 0))))) 1))).length : Int))) then
                if (decide (0 ≤ (D.asI (at_ s3 0)) ∧ (D.asI (at_ s3 0)) < (((D.asL (at_ (D.asA (at_ (D.asL a0) (Int.toNat (D.asI (at_ s1 0))))) 1))).length : Int))) then
                (R 95 [(at_ (D.asL (at_ (D.asA (at_ (D.asL a0) (Int.toNat (D.asI (at_ s1 0))))) 1)) (Int.toNat (D.asI (at_ s3 0))))]).bind fun r4 =>
                if (!(D.asB (at_ r4 0))) then
                  some (2, [(D.bool false)])
                else
                  some (0, [(D.int (IntKind.wrap .i64 ((D.asI (at_ s3 0)) + (1 : Int))))])
                else none
              else
                some (851976, [(D.bool (decide ((D.asI (at_ s3 0)) < (((D.asL (at_ (D.asA (at_ (D.asL a0) (Int.toNat (D.asI (at_ s1 0))))) 1))).length : Int)))), (at_ s3 0), (at_ s3 0)])) [(D.int 0)]).bind fun o2 =>
          if o2.1 = 851976 then
            if (decide (0 ≤ (0 : Int) ∧ (0 : Int) ≤ (D.asI (at_ s1 0)) ∧ (D.asI (at_ s1 0)) ≤ (((D.asL a0)).length : Int))) then
            (R 87 [(D.list (((((D.asL a0)).take (Int.toNat (D.asI (at_ s1 0))))).drop (Int.toNat (0 : Int)))), (D.list []), (at_ (D.asA (at_ (D.asL a0) (Int.toNat (D.asI (at_ s1 0))))) 1), (at_ (D.asA (at_ (D.asL a0) (Int.toNat (D.asI (at_ s1 0))))) 3)]).bind fun r3 =>
            if (((!(D.asB (at_ r3 1))) || (!((D.asI (at_ r3 0)) == (D.asI (at_ (D.asA (at_ (D.asL a0) (Int.toNat (D.asI (at_ s1 0))))) 2))))) || (decide ((6 : Int) < (((D.asL (at_ (D.asA (at_ (D.asL a0) (Int.toNat (D.asI (at_ s1 0))))) 1))).length : Int)))) then
              some (2, [(D.bool false)])
            else
              some (0, [(D.int (IntKind.wrap .i64 ((D.asI (at_ s1 0)) + (1 : Int))))])
            else none
          else some o2
          else none
        else
          some (327686, [])) [(D.int 0)]).bind fun o0 =>
    if o0.1 = 327686 then
      some (2, [(D.bool (decide ((((D.asL a0)).length : Int) ≤ (20 : Int))))])
    else some o0 : Option Out) := by kernel_rfl
-- cmp.isNaN[int]
def h93 : List (Nat × List (Nat × Tm × Nat)) := []
def il93 : IL := (.out 2 [(.un .not (.bin .ieq (.var 0) (.var 0)))])
theorem d93 : decompF C ⟨[.int .i64], [.bool], [false]⟩ Tryd.f93 h93 = some il93 := by kernel_rfl
theorem e93 (R : Fns) (a0 : D) : den C.G R il93 [a0] =
    (some (2, [(D.bool (!((D.asI a0) == (D.asI a0))))]) : Option Out) := by kernel_rfl
-- errata/expr.pick
def h99 : List (Nat × List (Nat × Tm × Nat)) := []
def il99 : IL := (.chk (.tri .ite (.bin .or (.bin .ilt (.var 1) (.int 0)) (.bin .ile (.un .len (.var 0)) (.var 1))) (.bool true) (.bin .inb (.un .len (.var 0)) (.var 1))) (.call [((.bin .or (.bin .ilt (.var 1) (.int 0)) (.bin .ile (.un .len (.var 0)) (.var 1))), false)] 1 76 [(.bin .idx (.var 0) (.var 1))] (.ite (.bin .or (.bin .or (.bin .ilt (.var 1) (.int 0)) (.bin .ile (.un .len (.var 0)) (.var 1))) (.un .not (.var 2))) (.out 2 [(.int 0), (.bool false)]) (.chk (.bin .inb (.un .len (.var 0)) (.var 1)) (.out 2 [(.bin .idx (.var 0) (.var 1)), (.bool true)])))))
theorem d99 : decompF C ⟨[.slice 3, .int .i64], [.int .i64, .bool], [false, false]⟩ Tryd.f99 h99 = some il99 := by kernel_rfl
theorem e99 (R : Fns) (a0 a1 : D) : den C.G R il99 [a0, a1] =
    (if (D.asB (if ((decide ((D.asI a1) < (0 : Int))) || (decide ((((D.asL a0)).length : Int) ≤ (D.asI a1)))) then (D.bool true) else (D.bool (decide (0 ≤ (D.asI a1) ∧ (D.asI a1) < (((D.asL a0)).length : Int)))))) then
    callIf ((((decide ((D.asI a1) < (0 : Int))) || (decide ((((D.asL a0)).length : Int) ≤ (D.asI a1)))) == false) && true) (R 76 [(at_ (D.asL a0) (Int.toNat (D.asI a1)))]) fun r0 =>
    if (((decide ((D.asI a1) < (0 : Int))) || (decide ((((D.asL a0)).length : Int) ≤ (D.asI a1)))) || (!(D.asB (at_ r0 0)))) then
      some (2, [(D.int 0), (D.bool false)])
    else
      if (decide (0 ≤ (D.asI a1) ∧ (D.asI a1) < (((D.asL a0)).length : Int))) then
      some (2, [(at_ (D.asL a0) (Int.toNat (D.asI a1))), (D.bool true)])
      else none
    else none : Option Out) := by kernel_rfl
-- errata/errataref16.number
def h104 : List (Nat × List (Nat × Tm × Nat)) := [(16, [(1, ⟨[(3, (.dat (.int .i64) (.var 0))), (4, (.dat (.bool) (.var 1))), (0, (.dat (.int .i64) (.var 0))), (2, (.dat (.int .i64) (.int 0)))], []⟩, 1)]), (24, [(1, ⟨[(3, (.dat (.int .i64) (.var 0))), (11, (.dat (.bool) (.var 2))), (0, (.dat (.int .i64) (.var 0))), (2, (.dat (.int .i64) (.int 0)))], []⟩, 1)])]
def il104 : IL := (.bindc (.ite (.bin .ieq (.var 0) (.int 0)) (.out 1048580 [(.bin .ieq (.var 0) (.int 0))]) (.ite (.bin .ieq (.var 0) (.int 1)) (.out 1048580 [(.bin .ieq (.var 0) (.int 1))]) (.ite (.bin .ieq (.var 0) (.int 2)) (.out 1048580 [(.bin .ieq (.var 0) (.int 2))]) (.ite (.bin .ieq (.var 0) (.int 3)) (.out 1048580 [(.bin .ieq (.var 0) (.int 3))]) (.ite (.bin .ieq (.var 0) (.int 4)) (.out 1048580 [(.bin .ieq (.var 0) (.int 4))]) (.out 1048580 [(.bin .ieq (.var 0) (.int 5))])))))) 1048580 1 (.ite (.var 1) (.out 2 [(.int 0)]) (.bindc (.ite (.bin .ieq (.var 0) (.int 6)) (.out 1572868 [(.bin .ieq (.var 0) (.int 6))]) (.ite (.bin .ieq (.var 0) (.int 7)) (.out 1572868 [(.bin .ieq (.var 0) (.int 7))]) (.out 1572868 [(.bin .ieq (.var 0) (.int 20))]))) 1572868 1 (.ite (.var 2) (.out 2 [(.int 1)]) (.ite (.bin .ieq (.var 0) (.int 21)) (.out 2 [(.int 3)]) (.ite (.bin .ieq (.var 0) (.int 22)) (.out 2 [(.int (-1))]) (.ite (.bin .and (.bin .ilt (.int 5) (.var 0)) (.bin .ilt (.var 0) (.int 21))) (.out 2 [(.int 2)]) (.out 2 [(.int (-1))]))))))))
theorem d104 : decompF C ⟨[.int .i64], [.int .i64], [false]⟩ Tryd.f104 h104 = some il104 := by kernel_rfl
theorem e104 (R : Fns) (a0 : D) : den C.G R il104 [a0] =
    ((if ((D.asI a0) == (0 : Int)) then
        some (1048580, [(D.bool ((D.asI a0) == (0 : Int)))])
      else
        if ((D.asI a0) == (1 : Int)) then
          some (1048580, [(D.bool ((D.asI a0) == (1 : Int)))])
        else
          if ((D.asI a0) == (2 : Int)) then
            some (1048580, [(D.bool ((D.asI a0) == (2 : Int)))])
          else
            if ((D.asI a0) == (3 : Int)) then
              some (1048580, [(D.bool ((D.asI a0) == (3 : Int)))])
            else
              if ((D.asI a0) == (4 : Int)) then
                some (1048580, [(D.bool ((D.asI a0) == (4 : Int)))])
              else
                some (1048580, [(D.bool ((D.asI a0) == (5 : Int)))])).bind fun o0 =>
    if o0.1 = 1048580 then
      if (D.asB (at_ o0.2 0)) then
        some (2, [(D.int 0)])
      else
        (if ((D.asI a0) == (6 : Int)) then
            some (1572868, [(D.bool ((D.asI a0) == (6 : Int)))])
          else
            if ((D.asI a0) == (7 : Int)) then
              some (1572868, [(D.bool ((D.asI a0) == (7 : Int)))])
            else
              some (1572868, [(D.bool ((D.asI a0) == (20 : Int)))])).bind fun o1 =>
        if o1.1 = 1572868 then
          if (D.asB (at_ o1.2 0)) then
            some (2, [(D.int 1)])
          else
            if ((D.asI a0) == (21 : Int)) then
              some (2, [(D.int 3)])
            else
              if ((D.asI a0) == (22 : Int)) then
                some (2, [(D.int (-1))])
              else
                if ((decide ((5 : Int) < (D.asI a0))) && (decide ((D.asI a0) < (21 : Int)))) then
                  some (2, [(D.int 2)])
                else
                  some (2, [(D.int (-1))])
        else some o1
    else some o0 : Option Out) := by kernel_rfl
-- errata/errataref16.less
def h107 : List (Nat × List (Nat × Tm × Nat)) := []
def il107 : IL := (.ite (.bin .ieq (.un (.fld 0) (.var 0)) (.int 1)) (.out 2 [(.bin .slt (.un (.fld 2) (.var 0)) (.un (.fld 2) (.var 1)))]) (.out 2 [(.bin .ilt (.un (.fld 1) (.var 0)) (.un (.fld 1) (.var 1)))]))
theorem d107 : decompF C ⟨[.struct 39, .struct 39], [.bool], [false]⟩ Tryd.f107 h107 = some il107 := by kernel_rfl
theorem e107 (R : Fns) (a0 a1 : D) : den C.G R il107 [a0, a1] =
    (if ((D.asI (at_ (D.asA a0) 0)) == (1 : Int)) then
      some (2, [(D.bool (strLt (D.asS (at_ (D.asA a0) 2)) (D.asS (at_ (D.asA a1) 2))))])
    else
      some (2, [(D.bool (decide ((D.asI (at_ (D.asA a0) 1)) < (D.asI (at_ (D.asA a1) 1)))))]) : Option Out) := by kernel_rfl
end Go.Proofs.YtlbckmllpciglaaDoor
