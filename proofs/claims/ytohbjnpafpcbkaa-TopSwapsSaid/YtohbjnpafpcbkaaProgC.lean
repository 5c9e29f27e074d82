/- prog.Check and its reference. Conditions: none. -/
import Derived.Test.YtohbjnpafpcbkaaBase
import Derived.Test.YtohbjnpafpcbkaaRows
import Derived.WalkKit
set_option linter.unusedSimpArgs false
set_option linter.unusedVariables false
set_option maxRecDepth 100000
open Go Go.Sx Go.Proofs
namespace Go.Proofs.Ytohbjnpafpcbkaa.Pg
open Go.Proofs.Ytohbjnpafpcbkaa.D

def outB (n lo hi : Int) : Bool := decide (n < lo) || decide (hi < n)
def Go (f : FuncId) (a : List SV) (m : List Res) : Sx.Call := (FH.rd 102 (.three .int .int .int) (.one .bool) (fun _ => True) (fun y => outB y.1 y.2.1 y.2.2.1) FH.none) f a m
end Go.Proofs.Ytohbjnpafpcbkaa.Pg
