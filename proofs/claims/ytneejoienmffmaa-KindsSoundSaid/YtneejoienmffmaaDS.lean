/-
  What KindsSound makes of plain data.
-/
import Derived.Test.YtneejoienmffmaaD
set_option linter.unusedVariables false
set_option maxRecDepth 100000
namespace Go.Proofs.T
open Go Go.Proofs Go.Proofs.SX
def lockgatelaw18_KindsSound (a : Int) (b : Bool) (c : AR) (d : AR) (e : Vl) (g : Vl) (i : Int) (j : Int) (k : Int) : Bool :=
  if (lockgatelaw18_Right c) = true then (if (lockgatelaw18_Right d) = true then (if i < 0 then lockgatelaw18_works
      else if 65535 < i then lockgatelaw18_works
      else if (kinds_Holds c e i j k) = true then (if (kinds_Holds d g i j k) = true then (if 0 = c.id then (if 1 = d.id then (if (kinds_Alu a b c d 2).2 = 0 then (if (value_Alu a b e g).2 = 0 then (if ((kinds_Alu a b c d 2).1).kind = 2 then (if ((kinds_Alu a b c d 2).1).id = 2 then (if e.kind = 1 then (if (kinds_Holds ((kinds_Alu a b c d 2).1) ((value_Alu a b e g).1) i (IntKind.u64.wrap (j + e.n)) k) = true then lockgatelaw18_works
                        else false)
                      else if (kinds_Holds ((kinds_Alu a b c d 2).1) ((value_Alu a b e g).1) i (IntKind.u64.wrap (j + g.n)) k) = true then lockgatelaw18_works
                      else false)
                    else if (kinds_Holds ((kinds_Alu a b c d 2).1) ((value_Alu a b e g).1) i j k) = true then lockgatelaw18_works
                    else false)
                  else if (kinds_Holds ((kinds_Alu a b c d 2).1) ((value_Alu a b e g).1) i j k) = true then lockgatelaw18_works
                  else false)
                else false)
              else lockgatelaw18_works)
            else if (kinds_Alu a b c d 1).2 = 0 then (if (value_Alu a b e g).2 = 0 then (if ((kinds_Alu a b c d 1).1).kind = 2 then (if ((kinds_Alu a b c d 1).1).id = 1 then (if e.kind = 1 then (if (kinds_Holds ((kinds_Alu a b c d 1).1) ((value_Alu a b e g).1) i (IntKind.u64.wrap (j + e.n)) k) = true then lockgatelaw18_works
                      else false)
                    else if (kinds_Holds ((kinds_Alu a b c d 1).1) ((value_Alu a b e g).1) i (IntKind.u64.wrap (j + g.n)) k) = true then lockgatelaw18_works
                    else false)
                  else if (kinds_Holds ((kinds_Alu a b c d 1).1) ((value_Alu a b e g).1) i j k) = true then lockgatelaw18_works
                  else false)
                else if (kinds_Holds ((kinds_Alu a b c d 1).1) ((value_Alu a b e g).1) i j k) = true then lockgatelaw18_works
                else false)
              else false)
            else lockgatelaw18_works)
          else if 0 = d.id then (if 1 = c.id then (if (kinds_Alu a b c d 2).2 = 0 then (if (value_Alu a b e g).2 = 0 then (if ((kinds_Alu a b c d 2).1).kind = 2 then (if ((kinds_Alu a b c d 2).1).id = 2 then (if e.kind = 1 then (if (kinds_Holds ((kinds_Alu a b c d 2).1) ((value_Alu a b e g).1) i (IntKind.u64.wrap (j + e.n)) k) = true then lockgatelaw18_works
                        else false)
                      else if (kinds_Holds ((kinds_Alu a b c d 2).1) ((value_Alu a b e g).1) i (IntKind.u64.wrap (j + g.n)) k) = true then lockgatelaw18_works
                      else false)
                    else if (kinds_Holds ((kinds_Alu a b c d 2).1) ((value_Alu a b e g).1) i j k) = true then lockgatelaw18_works
                    else false)
                  else if (kinds_Holds ((kinds_Alu a b c d 2).1) ((value_Alu a b e g).1) i j k) = true then lockgatelaw18_works
                  else false)
                else false)
              else lockgatelaw18_works)
            else if (kinds_Alu a b c d 1).2 = 0 then (if (value_Alu a b e g).2 = 0 then (if ((kinds_Alu a b c d 1).1).kind = 2 then (if ((kinds_Alu a b c d 1).1).id = 1 then (if e.kind = 1 then (if (kinds_Holds ((kinds_Alu a b c d 1).1) ((value_Alu a b e g).1) i (IntKind.u64.wrap (j + e.n)) k) = true then lockgatelaw18_works
                      else false)
                    else if (kinds_Holds ((kinds_Alu a b c d 1).1) ((value_Alu a b e g).1) i (IntKind.u64.wrap (j + g.n)) k) = true then lockgatelaw18_works
                    else false)
                  else if (kinds_Holds ((kinds_Alu a b c d 1).1) ((value_Alu a b e g).1) i j k) = true then lockgatelaw18_works
                  else false)
                else if (kinds_Holds ((kinds_Alu a b c d 1).1) ((value_Alu a b e g).1) i j k) = true then lockgatelaw18_works
                else false)
              else false)
            else lockgatelaw18_works)
          else if (kinds_Alu a b c d 0).2 = 0 then (if (value_Alu a b e g).2 = 0 then (if ((kinds_Alu a b c d 0).1).kind = 2 then (if ((kinds_Alu a b c d 0).1).id = 0 then (if e.kind = 1 then (if (kinds_Holds ((kinds_Alu a b c d 0).1) ((value_Alu a b e g).1) i (IntKind.u64.wrap (j + e.n)) k) = true then lockgatelaw18_works
                    else false)
                  else if (kinds_Holds ((kinds_Alu a b c d 0).1) ((value_Alu a b e g).1) i (IntKind.u64.wrap (j + g.n)) k) = true then lockgatelaw18_works
                  else false)
                else if (kinds_Holds ((kinds_Alu a b c d 0).1) ((value_Alu a b e g).1) i j k) = true then lockgatelaw18_works
                else false)
              else if (kinds_Holds ((kinds_Alu a b c d 0).1) ((value_Alu a b e g).1) i j k) = true then lockgatelaw18_works
              else false)
            else false)
          else lockgatelaw18_works)
        else lockgatelaw18_works)
      else lockgatelaw18_works)
    else lockgatelaw18_works)
  else lockgatelaw18_works
end Go.Proofs.T
