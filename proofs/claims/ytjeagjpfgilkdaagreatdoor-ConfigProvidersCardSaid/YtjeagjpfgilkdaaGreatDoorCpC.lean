/-
  ConfigProviders: the tables.
-/
import Derived.Test.YtjeagjpfgilkdaaGreatDoorCpB
set_option linter.unusedVariables false
set_option linter.unusedSimpArgs false
open Go Go.Ev
namespace Go.Proofs.Cp
set_option maxRecDepth 100000
noncomputable section
def kindL (i : Nat) : List Nat := match i with | 0 => [102, 105, 108, 101] | 1 => [100, 110, 115] | _ => [104, 116, 116, 112]
/-- the source, quoted where it must be -/
def quoL (i : Nat) : List Nat := match i with | 0 => [120] | 1 => [95, 97, 46, 95, 116, 99, 112, 46, 98] | 2 => [34, 47, 115, 100, 47, 97, 32, 98, 46, 106, 115, 111, 110, 34] | _ => [34, 104, 116, 116, 112, 58, 47, 47, 195, 169, 47, 92, 34, 113, 92, 34, 34]
def refL (i : Nat) : List Nat := match i with | 0 => [49] | _ => [49, 48]
def txtL (x y z : Nat) : List Nat := app [112, 114, 111, 118, 105, 100, 101, 114, 32] (app (kindL x) (32 :: app (quoL y) (32 :: refL z)))
def txt (t : Nat × Nat × Nat) : V := .tuple [.str (txtL t.1 t.2.1 t.2.2), .int .i64 0]
def headL : List Nat := [106, 111, 98, 32, 97, 10, 101, 118, 101, 114, 121, 32, 53, 10, 116, 105, 109, 101, 111, 117, 116, 32, 53, 10, 108, 105, 109, 105, 116, 32, 53, 10, 116, 104, 114, 111, 116, 116, 108, 101, 32, 48, 10]
def wrt (t : Nat × Nat × Nat) : V := .tuple [.str (app headL (app (txtL t.1 t.2.1 t.2.2) [10])), .int .i64 (-1), .int .i64 0]
def trips (z : Nat) : List (Nat × Nat × Nat) := [(0, 0, z), (1, 0, z), (2, 0, z), (0, 1, z), (1, 1, z), (2, 1, z), (0, 2, z), (1, 2, z), (2, 2, z), (0, 3, z), (1, 3, z), (2, 3, z)]
def provT (t : Nat × Nat × Nat) : V := prov t.1 t.2.1 t.2.2
def jobC : List V := [.str [97], .int .i64 5, .int .i64 5, .int .i64 5, .int .i64 0, .slice 12 0 1 1, .nils, .nils]
def cfgV : V := .agg [.slice 11 0 1 1]
def rowRo (n e : Nat) (l : List V) : Ob := .row n (T.ofList l 0 .L) e 0 true 0
def hW (t : Nat × Nat × Nat) : H := ⟨13, 0, ((h0.tab.put (some (rowRo 8 32 jobC)) 11).put (some (rowRo 3 24 (provC t.1 t.2.1 t.2.2))) 12)⟩
def textOne (t : Nat × Nat × Nat) : Bool := run0.call 6 [provT t] h0 (fun v _ => v.beq (txt t))
def writeOne (t : Nat × Nat × Nat) : Bool := run0.call 7 [cfgV] (hW t) (fun v _ => v.beq (wrt t))
end
end Go.Proofs.Cp
