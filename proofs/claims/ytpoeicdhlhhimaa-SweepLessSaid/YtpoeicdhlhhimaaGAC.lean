import Derived.Test.YtpoeicdhlhhimaaGAB
import Derived.Test.YtpoeicdhlhhimaaAbG
set_option linter.all false
namespace Go.Proofs
def Try.tab3 : Go.Abs.Tab := [(8, [0, 1, 2, 3, 4, 5, 6, 7, 8, 9, 10, 11, 12, 13, 14, 15], [(10, [1, 3, 5]), (14, [1, 3, 5]), (15, [1, 3, 5])]), (22, [0, 1, 2, 3, 5, 6, 7, 8, 9, 10, 4, 11, 12, 13, 14, 15, 16], [(4, [3])])]
def Try.tab6 : Go.Abs.Tab := []
def Try.tab7 : Go.Abs.Tab := []
def Try.tab8 : Go.Abs.Tab := []
def Try.tab13 : Go.Abs.Tab := []
def Try.tab14 : Go.Abs.Tab := []
def Try.tab18 : Go.Abs.Tab := []
def Try.tab19 : Go.Abs.Tab := []
def Try.tab20 : Go.Abs.Tab := [(1, [0, 1, 2, 3, 5, 6, 7, 8, 10, 11, 12, 13, 4, 9, 14, 15, 16, 17], [(4, [1, 3]), (9, [1, 3, 6, 8]), (14, [1, 3, 6, 8, 11, 13]), (15, [1, 3, 6, 8, 11, 13]), (16, [1, 3, 6, 8, 11, 13]), (17, [1, 3, 6, 8, 11, 13])])]
def Try.tab21 : Go.Abs.Tab := [(6, [0, 1, 2, 3, 4, 5, 6, 7, 8, 9], []), (11, [0, 1, 2, 3, 4, 5, 6, 7, 8, 9], [])]
def Try.tab25 : Go.Abs.Tab := []
def Try.tab26 : Go.Abs.Tab := [(17, [0, 1, 2, 3, 4, 5, 6, 7, 8, 9, 10, 11, 12, 13, 14, 15, 16], [(13, [7, 8, 11, 12])])]
def Try.tab27 : Go.Abs.Tab := []
def Try.tab38 : Go.Abs.Tab := [(4, [0, 1, 2, 3, 4, 5, 6, 7, 8, 9, 10, 11, 12, 13, 14, 15, 16], [(14, [7, 8, 12, 13])]), (6, [0, 1, 2, 3, 4, 5, 6, 7, 8, 9, 10, 11, 12, 13, 14, 15, 16, 17], [(15, [8, 9, 12, 13, 14]), (17, [8, 9, 12, 13, 14, 16])])]
end Go.Proofs
