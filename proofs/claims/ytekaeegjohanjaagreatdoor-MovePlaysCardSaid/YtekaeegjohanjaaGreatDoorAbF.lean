import Derived.Test.YtekaeegjohanjaaGreatDoorAbE
set_option linter.all false
namespace Go.Abs
section
variable {P:Program} {G:Nat→Option AV} {h:AH}
end
section
variable {P:Program} {G:Nat→Option AV} {N:Nat}
end
end Go.Abs
