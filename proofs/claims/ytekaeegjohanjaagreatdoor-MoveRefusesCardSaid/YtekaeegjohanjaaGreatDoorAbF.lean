/-
  Closed runs: what must hold ahead of code, as a computation that ends in true or false.
-/
import Derived.Test.YtekaeegjohanjaaGreatDoorAbE
set_option linter.all false
namespace Go.Abs

section
variable {P : Program} {G : Nat → Option AV} {h : AH}

end

/-- Of each function: the table, the slots. -/
abbrev FTab := List (Nat × Tab × List Nat × List Nat)
def FTab.row (F : FTab) (f : Nat) : Option (Tab × List Nat × List Nat) :=
  match F with
  | [] => none
  | (i, r) :: F => if i = f then some r else FTab.row F f
section
variable {P : Program} {G : Nat → Option AV} {N : Nat}

end
end Go.Abs
