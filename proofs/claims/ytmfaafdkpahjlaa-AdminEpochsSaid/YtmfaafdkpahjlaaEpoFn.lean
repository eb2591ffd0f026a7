import Derived.Test.YtmfaafdkpahjlaaEpoTy
import Derived.Test.YtmfaafdkpahjlaaEpaG
import Derived.Test.YtmfaafdkpahjlaaEpoTab
set_option linter.all false
namespace Go.Proofs
def Try.vs2 : List Go.Tmp := []
def Try.cs2 : List Go.Tmp := []
def Try.tab2 : Go.Abs.Tab := []
def Try.vs3 : List Go.Tmp := [0, 1, 4, 5, 6, 7, 8, 9, 10, 11, 12, 13, 14, 15, 16, 17, 18, 19, 20, 21, 23, 77, 78, 79, 94, 95, 96, 217, 218, 219]
def Try.cs3 : List Go.Tmp := [25, 41, 49, 75, 80, 87, 97, 150, 157, 160, 215, 220, 234]
def Try.tab3 : Go.Abs.Tab := [(21, [1, 2, 4, 5, 8, 0, 3, 6, 7], [(3, [2]), (6, [2, 5])])]
def Try.vs4 : List Go.Tmp := [0, 1, 2, 4, 5, 6, 7, 8, 9, 10, 11, 12]
def Try.cs4 : List Go.Tmp := []
def Try.tab4 : Go.Abs.Tab := []
def Try.vs5 : List Go.Tmp := [0, 1, 2, 4, 5, 6, 7, 8, 9, 10, 11, 13, 14, 15, 71, 72, 73, 91, 92, 93]
def Try.cs5 : List Go.Tmp := [17, 27, 39, 70, 74, 88, 94, 114]
def Try.tab5 : Go.Abs.Tab := [(8, [0, 1, 2, 3, 4, 5, 6, 7, 8, 9, 10, 11, 12, 13, 14, 15], [(10, [1, 3, 5]), (14, [1, 3, 5]), (15, [1, 3, 5])]), (22, [0, 1, 2, 3, 5, 6, 7, 8, 9, 10, 4, 11, 12, 13, 14, 15, 16], [(4, [3])])]
def Try.vs6 : List Go.Tmp := [0, 1, 4, 5, 6, 7, 8, 9, 10, 11, 12, 14, 15, 16, 58, 59, 60, 65, 66, 67]
def Try.cs6 : List Go.Tmp := [18, 26, 56, 61, 68, 88, 103]
def Try.tab6 : Go.Abs.Tab := [(19, [0, 1, 2, 3, 4, 5, 6, 7, 8, 9], []), (22, [0, 1, 2, 3, 4, 5, 6, 7, 8], []), (24, [0, 1, 2, 3, 4, 5, 6], [(6, [1, 4, 5])])]
def Try.vs7 : List Go.Tmp := [0, 1, 2, 3, 4, 5, 30, 31, 32]
def Try.cs7 : List Go.Tmp := [15, 33, 41, 75]
def Try.tab7 : Go.Abs.Tab := [(10, [0, 1, 2, 3, 4, 5, 6, 7, 8, 9, 10, 11, 12, 13, 14, 15, 16, 17, 18, 19, 20, 21, 22, 23, 24, 25, 26, 27, 28, 29, 30, 31], [(19, [1, 5, 7, 14, 16, 18]), (29, [1, 5, 7, 14, 16, 18, 24, 26, 28])])]
def Try.vs8 : List Go.Tmp := [0, 2, 3]
def Try.cs8 : List Go.Tmp := [9]
def Try.tab8 : Go.Abs.Tab := []
def Try.vs9 : List Go.Tmp := [0, 1, 3, 4, 5]
def Try.cs9 : List Go.Tmp := [27]
def Try.tab9 : Go.Abs.Tab := [(2, [0, 1, 2, 3, 4, 5, 6, 7, 8, 9, 10, 11, 12, 13, 14, 15, 16, 17, 18, 19, 20], [(18, [1, 5, 7, 13, 15, 16, 17])]), (4, [0, 1, 2, 3, 4, 5, 6, 7, 8, 9, 10], [(9, [2, 4, 6, 8]), (10, [2, 4, 6, 8])])]
def Try.vs10 : List Go.Tmp := [0, 2, 3, 5, 9, 10, 11]
def Try.cs10 : List Go.Tmp := [12]
def Try.tab10 : Go.Abs.Tab := [(5, [0, 1, 2, 3, 4, 6, 7, 5, 8, 9, 10, 11, 12], [(5, [4]), (8, [4, 7]), (10, [2, 4, 7]), (11, [2, 4, 7]), (12, [2, 4, 7])])]
def Try.vs11 : List Go.Tmp := [0, 1, 4, 5, 6]
def Try.cs11 : List Go.Tmp := [17]
def Try.tab11 : Go.Abs.Tab := [(3, [0, 1, 2, 3, 4, 5, 6, 7, 8, 9, 10, 11, 12, 13, 14, 15, 16, 17, 18], [(16, [3, 5, 7]), (17, [3, 5, 7, 11, 13, 15]), (18, [3, 5, 7, 11, 13, 15])])]
def Try.vs12 : List Go.Tmp := [0, 1, 4, 5]
def Try.cs12 : List Go.Tmp := [10, 14, 25]
def Try.tab12 : Go.Abs.Tab := [(6, [0, 1, 2, 3, 4, 5, 6, 7, 8], [])]
def Try.vs13 : List Go.Tmp := [0, 1, 4, 6, 7, 8, 9]
def Try.cs13 : List Go.Tmp := [10, 15]
def Try.tab13 : Go.Abs.Tab := []
def Try.vs14 : List Go.Tmp := [0, 1, 2, 3, 4, 6, 34, 35, 36]
def Try.cs14 : List Go.Tmp := [16, 37]
def Try.tab14 : Go.Abs.Tab := []
def Try.vs15 : List Go.Tmp := [0, 1, 2, 3, 4, 5]
def Try.cs15 : List Go.Tmp := [15, 36]
def Try.tab15 : Go.Abs.Tab := []
def Try.vs16 : List Go.Tmp := [0, 2, 3, 4, 5, 6, 8, 9, 10, 47, 48, 49]
def Try.cs16 : List Go.Tmp := [23, 50, 72]
def Try.tab16 : Go.Abs.Tab := [(4, [0, 1, 2, 3, 4, 5, 6, 7, 8, 9, 10, 11, 12, 13, 14, 15, 16, 17, 18, 19, 20, 21, 22], [(22, [1, 3, 5, 7, 9, 11, 13, 15, 17, 19])])]
def Try.vs17 : List Go.Tmp := [0, 2, 3, 4, 5, 6, 7]
def Try.cs17 : List Go.Tmp := [40, 66, 76, 79]
def Try.tab17 : Go.Abs.Tab := [(4, [0, 1, 2, 3, 4, 5, 6, 7, 8, 9, 10, 11, 12, 13, 14, 15, 16, 17, 18, 19, 20, 21, 22], [(22, [1, 3, 5, 7, 9, 11, 13, 15, 17, 19])]), (11, [0, 1, 2, 3, 4, 5, 6, 7, 8, 9, 10], [(7, [4, 6]), (8, [1, 4, 6]), (10, [1, 4, 6])])]
def Try.vs18 : List Go.Tmp := [0, 1, 2, 3, 4]
def Try.cs18 : List Go.Tmp := []
def Try.tab18 : Go.Abs.Tab := []
def Try.vs19 : List Go.Tmp := [0, 1, 2, 3, 4, 5]
def Try.cs19 : List Go.Tmp := []
def Try.tab19 : Go.Abs.Tab := []
def Try.vs20 : List Go.Tmp := [0, 1, 2, 6, 7, 8, 9, 10, 12, 13, 14, 15, 16, 25, 26, 27, 56, 57, 58]
def Try.cs20 : List Go.Tmp := [23, 28, 44, 53, 59, 79]
def Try.tab20 : Go.Abs.Tab := []
def Try.vs21 : List Go.Tmp := [0, 1, 4]
def Try.cs21 : List Go.Tmp := []
def Try.tab21 : Go.Abs.Tab := []
def Try.vs22 : List Go.Tmp := [0, 1, 4, 6, 7, 8, 9]
def Try.cs22 : List Go.Tmp := [10, 15]
def Try.tab22 : Go.Abs.Tab := []
def Try.vs23 : List Go.Tmp := [0, 1, 4, 5, 6, 8, 9, 11, 12, 13, 26, 32, 33, 34]
def Try.cs23 : List Go.Tmp := [21, 24, 35, 44]
def Try.tab23 : Go.Abs.Tab := []
def Try.vs24 : List Go.Tmp := [0, 1, 4, 5]
def Try.cs24 : List Go.Tmp := [10, 14, 25]
def Try.tab24 : Go.Abs.Tab := [(6, [0, 1, 2, 3, 4, 5, 6, 7, 8], [])]
def Try.vs25 : List Go.Tmp := [0, 1, 4, 5, 6, 7, 8]
def Try.cs25 : List Go.Tmp := [10, 26, 37]
def Try.tab25 : Go.Abs.Tab := [(9, [0, 1, 2, 3, 4, 5, 6, 7, 8, 9], [(7, [3, 6]), (9, [3, 6])])]
def Try.vs26 : List Go.Tmp := [0, 1]
def Try.cs26 : List Go.Tmp := []
def Try.tab26 : Go.Abs.Tab := []
def Try.vs27 : List Go.Tmp := [0, 1, 2, 3, 4]
def Try.cs27 : List Go.Tmp := []
def Try.tab27 : Go.Abs.Tab := []
def Try.vs28 : List Go.Tmp := [0, 2]
def Try.cs28 : List Go.Tmp := [4]
def Try.tab28 : Go.Abs.Tab := []
def Try.vs29 : List Go.Tmp := [0, 2, 3, 5, 6, 8, 12, 13, 14, 36, 37, 38]
def Try.cs29 : List Go.Tmp := [11, 15, 34, 39, 43, 62]
def Try.tab29 : Go.Abs.Tab := [(14, [0, 3, 4, 5, 7, 8, 1, 2, 6, 9, 10], [(6, [4, 5]), (9, [4, 5, 8]), (10, [4, 5, 8])]), (15, [0, 3, 4, 1, 2, 5, 6], [(5, [4]), (6, [4])])]
def Try.vs30 : List Go.Tmp := [0, 2, 3, 4]
def Try.cs30 : List Go.Tmp := [13]
def Try.tab30 : Go.Abs.Tab := []
def Try.vs31 : List Go.Tmp := [0, 2, 3, 4, 5, 6, 7, 8, 9]
def Try.cs31 : List Go.Tmp := [12, 16, 24, 34]
def Try.tab31 : Go.Abs.Tab := []
def Try.vs32 : List Go.Tmp := [0, 2, 3, 4, 5, 6, 7, 8]
def Try.cs32 : List Go.Tmp := [11, 16, 19, 30]
def Try.tab32 : Go.Abs.Tab := []
def Try.vs33 : List Go.Tmp := [0, 2, 3, 4, 5, 6, 7, 8, 16]
def Try.cs33 : List Go.Tmp := [18]
def Try.tab33 : Go.Abs.Tab := []
def Try.vs34 : List Go.Tmp := [0, 1, 4, 5]
def Try.cs34 : List Go.Tmp := [10, 14, 25]
def Try.tab34 : Go.Abs.Tab := [(6, [0, 1, 2, 3, 4, 5, 6, 7, 8], [])]
def Try.vs35 : List Go.Tmp := [0, 2, 3, 4, 6, 10, 11, 12]
def Try.cs35 : List Go.Tmp := [9, 13]
def Try.tab35 : Go.Abs.Tab := []
def Try.vs36 : List Go.Tmp := [0, 2, 3, 5, 7, 8, 9]
def Try.cs36 : List Go.Tmp := [10, 20]
def Try.tab36 : Go.Abs.Tab := []
def Try.vs37 : List Go.Tmp := [0, 1, 2]
def Try.cs37 : List Go.Tmp := []
def Try.tab37 : Go.Abs.Tab := []
def Try.vs38 : List Go.Tmp := [0, 1, 4, 5, 6, 7, 8, 9]
def Try.cs38 : List Go.Tmp := []
def Try.tab38 : Go.Abs.Tab := []
def Try.vs39 : List Go.Tmp := [0, 1, 2]
def Try.cs39 : List Go.Tmp := []
def Try.tab39 : Go.Abs.Tab := []
def Try.vs40 : List Go.Tmp := [0, 1, 3, 4, 5, 6, 7, 8, 9, 10, 11, 71, 82, 112, 113, 116, 119, 122, 126, 139]
def Try.cs40 : List Go.Tmp := [44, 50, 61, 124]
def Try.tab40 : Go.Abs.Tab := [(2, [0, 1, 2, 3, 4, 5, 6, 7, 8, 9, 10, 11, 12, 13, 14, 15, 16, 17, 18, 19, 20, 21, 22, 23, 24, 25, 26, 27, 28, 29, 30], []), (6, [0, 1, 2, 3, 4, 5, 6, 7, 8], [(8, [3, 4, 5, 7])]), (16, [0, 1, 2, 3, 4, 6, 8, 9, 11, 5, 7, 10, 12, 13, 14, 15], [(5, [4]), (7, [4]), (10, [4, 9]), (12, [4, 9]), (15, [1, 4, 9])]), (32, [0, 1, 2, 3, 4, 5, 6, 7, 8, 9, 10, 11, 12, 13, 14, 15], [(13, [3, 8, 10, 12]), (15, [3, 8, 9, 10, 11, 12, 14])])]
def Try.vs41 : List Go.Tmp := [0, 1, 2, 3, 4, 5, 6, 8, 24, 25, 26, 71, 72, 73]
def Try.cs41 : List Go.Tmp := [12, 22, 27, 47, 69, 74]
def Try.tab41 : Go.Abs.Tab := [(16, [0, 1, 2, 3, 4, 5, 6, 7, 8, 9, 10, 11, 12], [(12, [0, 3, 5, 8, 9, 11])]), (18, [0, 1, 2, 3, 4, 5, 6, 7, 8, 9, 10, 11, 12, 13], [(7, [6]), (9, [6]), (10, [1, 4, 6]), (13, [0, 1, 4, 6])]), (19, [0, 1, 2, 3, 4, 5, 6, 7, 8, 9, 10, 11, 12, 13, 14, 15, 16, 17, 18], [(12, [7, 11]), (14, [7, 11]), (18, [0, 1, 5, 7, 11])])]
def Try.vs42 : List Go.Tmp := [0, 1, 3, 4, 5, 6, 12]
def Try.cs42 : List Go.Tmp := [47]
def Try.tab42 : Go.Abs.Tab := [(5, [0, 1, 2, 3, 4, 5, 6, 7, 8, 9, 10, 11, 12, 13, 14, 15, 16], [(12, [11]), (16, [3, 8, 11])]), (6, [0, 1, 2, 3, 4, 5, 6, 7, 8, 9, 10, 11, 12, 13], [(11, [1, 2, 6, 7, 10])])]
def Try.vs43 : List Go.Tmp := [0, 1, 3, 4, 5, 6]
def Try.cs43 : List Go.Tmp := [11, 25]
def Try.tab43 : Go.Abs.Tab := [(3, [0, 1, 2, 3, 4, 5, 6, 7, 8, 9, 10, 11, 12, 13, 14], [(8, [3, 5, 7]), (13, [3, 5, 7]), (14, [3, 5, 7])])]
def Try.vs44 : List Go.Tmp := [0, 1, 4]
def Try.cs44 : List Go.Tmp := [9]
def Try.tab44 : Go.Abs.Tab := []
def Try.vs45 : List Go.Tmp := [0, 1, 4, 5, 6]
def Try.cs45 : List Go.Tmp := [10]
def Try.tab45 : Go.Abs.Tab := []
def Try.vs46 : List Go.Tmp := [0, 1, 2]
def Try.cs46 : List Go.Tmp := [4]
def Try.tab46 : Go.Abs.Tab := [(2, [0, 1, 2, 5, 6, 3, 4, 7, 8], [(3, [1, 2]), (8, [1, 2, 6])])]
def Try.vs47 : List Go.Tmp := [0, 2, 3, 4, 5, 6, 7, 10, 18, 28, 32, 38, 57, 63, 71]
def Try.cs47 : List Go.Tmp := []
def Try.tab47 : Go.Abs.Tab := [(22, [0, 1, 2, 3, 4, 5, 6, 7, 8, 9], [(7, [2]), (8, [2, 6]), (9, [2, 6])])]
def Try.vs48 : List Go.Tmp := [0, 1, 4]
def Try.cs48 : List Go.Tmp := []
def Try.tab48 : Go.Abs.Tab := []
def Try.vs49 : List Go.Tmp := [0, 1, 4, 5, 6, 7, 8, 9]
def Try.cs49 : List Go.Tmp := [19, 30, 36, 45, 52]
def Try.tab49 : Go.Abs.Tab := []
def Try.vs50 : List Go.Tmp := [0, 1, 4]
def Try.cs50 : List Go.Tmp := []
def Try.tab50 : Go.Abs.Tab := []
def Try.vs51 : List Go.Tmp := [0, 1, 2, 3, 4]
def Try.cs51 : List Go.Tmp := []
def Try.tab51 : Go.Abs.Tab := []
def Try.vs52 : List Go.Tmp := [0, 1, 4, 5, 6]
def Try.cs52 : List Go.Tmp := [11, 12, 13, 16, 19]
def Try.tab52 : Go.Abs.Tab := []
def Try.vs53 : List Go.Tmp := [0, 1, 4]
def Try.cs53 : List Go.Tmp := []
def Try.tab53 : Go.Abs.Tab := []
def Try.vs54 : List Go.Tmp := [0, 1, 2, 3, 4]
def Try.cs54 : List Go.Tmp := []
def Try.tab54 : Go.Abs.Tab := [(1, [0, 1, 2, 3, 5, 6, 7, 8, 10, 11, 12, 13, 4, 9, 14, 15, 16, 17], [(4, [1, 3]), (9, [1, 3, 6, 8]), (14, [1, 3, 6, 8, 11, 13]), (15, [1, 3, 6, 8, 11, 13]), (16, [1, 3, 6, 8, 11, 13]), (17, [1, 3, 6, 8, 11, 13])])]
def Try.vs55 : List Go.Tmp := [0, 2, 3, 4, 5]
def Try.cs55 : List Go.Tmp := [8, 13, 25, 32, 44]
def Try.tab55 : Go.Abs.Tab := [(6, [0, 1, 2, 3, 4, 5, 6, 7, 8, 9], []), (11, [0, 1, 2, 3, 4, 5, 6, 7, 8, 9], [])]
def Try.vs56 : List Go.Tmp := [0, 1, 3]
def Try.cs56 : List Go.Tmp := [8, 18]
def Try.tab56 : Go.Abs.Tab := []
def Try.vs57 : List Go.Tmp := [0, 1, 4, 5, 6]
def Try.cs57 : List Go.Tmp := []
def Try.tab57 : Go.Abs.Tab := []
def Try.vs58 : List Go.Tmp := [0, 1, 4, 5, 6, 7, 8, 9, 10, 11, 12, 13]
def Try.cs58 : List Go.Tmp := []
def Try.tab58 : Go.Abs.Tab := []
def Try.vs59 : List Go.Tmp := [0, 1, 2, 6, 7, 16, 17, 21, 31, 39]
def Try.cs59 : List Go.Tmp := []
def Try.tab59 : Go.Abs.Tab := [(11, [0, 1, 2, 3, 4, 5, 6, 7, 8, 9, 10, 11, 12, 13, 14, 15, 16, 17, 18, 19, 20, 21, 22, 23, 24, 25, 26, 27, 28, 29], [(29, [6, 10, 14, 16, 18, 19, 21, 22, 23, 24, 26])])]
def Try.vs60 : List Go.Tmp := [0, 1, 3]
def Try.cs60 : List Go.Tmp := []
def Try.tab60 : Go.Abs.Tab := []
def Try.vs61 : List Go.Tmp := [0, 1, 4]
def Try.cs61 : List Go.Tmp := []
def Try.tab61 : Go.Abs.Tab := [(1, [0, 1, 2, 3, 4, 5, 6, 7, 8, 9, 10, 11, 12, 13, 14, 15, 16, 17, 18], [(17, [3, 7, 9, 11, 12, 14]), (18, [3, 7, 9, 11, 12, 14])])]
def Try.vs62 : List Go.Tmp := [0, 1, 4, 5, 6, 7]
def Try.cs62 : List Go.Tmp := [12, 19, 29]
def Try.tab62 : Go.Abs.Tab := []
def Try.vs63 : List Go.Tmp := [0, 1, 4]
def Try.cs63 : List Go.Tmp := []
def Try.tab63 : Go.Abs.Tab := []
def Try.vs64 : List Go.Tmp := [0, 1, 3]
def Try.cs64 : List Go.Tmp := []
def Try.tab64 : Go.Abs.Tab := []
def Try.vs65 : List Go.Tmp := [0, 1, 4]
def Try.cs65 : List Go.Tmp := []
def Try.tab65 : Go.Abs.Tab := []
def Try.vs66 : List Go.Tmp := [0, 1, 2, 3, 9, 20, 40]
def Try.cs66 : List Go.Tmp := []
def Try.tab66 : Go.Abs.Tab := []
def Try.vs67 : List Go.Tmp := [0, 1, 2, 4, 5, 6]
def Try.cs67 : List Go.Tmp := [10, 25]
def Try.tab67 : Go.Abs.Tab := []
def Try.vs68 : List Go.Tmp := [0, 1, 2, 6]
def Try.cs68 : List Go.Tmp := []
def Try.tab68 : Go.Abs.Tab := []
def Try.vs69 : List Go.Tmp := [0, 2, 3, 4]
def Try.cs69 : List Go.Tmp := [8]
def Try.tab69 : Go.Abs.Tab := []
def Try.vs70 : List Go.Tmp := [0, 2, 3]
def Try.cs70 : List Go.Tmp := [8]
def Try.tab70 : Go.Abs.Tab := []
def Try.vs71 : List Go.Tmp := [0, 1, 4, 5, 6, 7, 8, 9]
def Try.cs71 : List Go.Tmp := [13, 19, 22, 30, 41]
def Try.tab71 : Go.Abs.Tab := []
def Try.vs72 : List Go.Tmp := [0, 1, 2, 3, 4, 10, 11, 12, 13, 14, 15, 16, 17, 18, 19, 20]
def Try.cs72 : List Go.Tmp := [25, 32, 39, 56, 75, 80, 97, 125]
def Try.tab72 : Go.Abs.Tab := [(17, [0, 1, 2, 3, 4, 5, 6, 7, 8, 9, 10, 11, 12, 13, 14, 15, 16], [(13, [7, 8, 11, 12])])]
def Try.vs73 : List Go.Tmp := [0, 2]
def Try.cs73 : List Go.Tmp := []
def Try.tab73 : Go.Abs.Tab := []
def Try.vs74 : List Go.Tmp := [0, 2]
def Try.cs74 : List Go.Tmp := []
def Try.tab74 : Go.Abs.Tab := []
def Try.vs75 : List Go.Tmp := [0, 1, 2, 3, 4, 10, 11, 12, 13, 14, 15, 16, 17, 18, 19, 20]
def Try.cs75 : List Go.Tmp := [25, 32, 39, 56, 75, 80, 97, 125]
def Try.tab75 : Go.Abs.Tab := [(17, [0, 1, 2, 3, 4, 5, 6, 7, 8, 9, 10, 11, 12, 13, 14, 15, 16], [(13, [7, 8, 11, 12])])]
def Try.vs76 : List Go.Tmp := [0, 2, 3, 5, 6, 7, 8]
def Try.cs76 : List Go.Tmp := [9, 14]
def Try.tab76 : Go.Abs.Tab := []
def Try.vs77 : List Go.Tmp := [0, 1, 4, 5, 12, 13]
def Try.cs77 : List Go.Tmp := [10, 14, 24]
def Try.tab77 : Go.Abs.Tab := [(6, [0, 1, 2, 3, 4, 5, 6, 7, 8], [])]
def Try.vs78 : List Go.Tmp := [0, 1, 4, 5, 7, 8]
def Try.cs78 : List Go.Tmp := [9, 16]
def Try.tab78 : Go.Abs.Tab := []
def Try.vs79 : List Go.Tmp := [0, 1, 4, 5, 7, 8]
def Try.cs79 : List Go.Tmp := [9, 16]
def Try.tab79 : Go.Abs.Tab := []
def Try.vs80 : List Go.Tmp := [0, 1, 2]
def Try.cs80 : List Go.Tmp := [16]
def Try.tab80 : Go.Abs.Tab := []
def Try.vs81 : List Go.Tmp := [0, 1, 2, 4, 6, 7]
def Try.cs81 : List Go.Tmp := [8]
def Try.tab81 : Go.Abs.Tab := []
def Try.vs82 : List Go.Tmp := [0, 1, 2, 3, 8, 9]
def Try.cs82 : List Go.Tmp := [14, 34]
def Try.tab82 : Go.Abs.Tab := [(4, [0, 1, 2, 3, 4, 5, 6, 7, 8, 9, 10, 11, 12, 13, 14, 15, 16], [(14, [7, 8, 12, 13])]), (6, [0, 1, 2, 3, 4, 5, 6, 7, 8, 9, 10, 11, 12, 13, 14, 15, 16, 17], [(15, [8, 9, 12, 13, 14]), (17, [8, 9, 12, 13, 14, 16])])]
def Try.vs83 : List Go.Tmp := [0, 1, 2, 3, 8, 9, 10, 11, 12]
def Try.cs83 : List Go.Tmp := [21, 33]
def Try.tab83 : Go.Abs.Tab := [(10, [0, 1, 2, 3, 4, 5, 6, 7, 8, 9, 10, 11, 12, 13, 14, 15, 16, 17, 18, 19], [(17, [10, 11, 14, 15, 16]), (19, [10, 11, 14, 15, 16, 18])])]
def Try.vs84 : List Go.Tmp := [0, 1, 2, 8, 9, 10, 11, 12]
def Try.cs84 : List Go.Tmp := [17, 35, 45]
def Try.tab84 : Go.Abs.Tab := [(10, [0, 1, 2, 3, 4, 5, 6, 7, 8, 9, 10, 11, 12, 13, 14, 15, 16, 17, 18, 19], [(17, [10, 11, 14, 15, 16]), (19, [10, 11, 14, 15, 16, 18])])]
def Try.vs85 : List Go.Tmp := [0, 1, 2, 3, 8, 9, 10, 11, 12, 13, 14, 55, 57, 60]
def Try.cs85 : List Go.Tmp := [34, 36]
def Try.tab85 : Go.Abs.Tab := []
def Try.vs86 : List Go.Tmp := [0, 1, 2, 8, 9]
def Try.cs86 : List Go.Tmp := [15]
def Try.tab86 : Go.Abs.Tab := [(3, [0, 1, 2, 3, 4, 5, 6, 7, 8, 9, 10, 11, 12, 13, 14, 15], [(13, [6, 7, 10, 11, 12]), (15, [6, 7, 10, 11, 12, 14])])]
def Try.vs87 : List Go.Tmp := [0, 1, 2, 3, 8, 9, 10, 11, 12]
def Try.cs87 : List Go.Tmp := [16, 36, 41, 45, 65, 69, 84, 104, 109, 124]
def Try.tab87 : Go.Abs.Tab := [(5, [0, 1, 2, 3, 4, 5, 6, 7, 8, 9, 10, 11, 12, 13, 14, 15, 16, 17], [(14, [7, 8, 12, 13])]), (11, [0, 1, 2, 3, 4, 5, 6, 7, 8, 9, 10, 11, 12, 13, 14, 15, 16, 17], [(15, [8, 9, 12, 13, 14]), (17, [8, 9, 12, 13, 14, 16])]), (16, [0, 1, 2, 3, 4, 5, 6, 7, 8, 9, 10, 11, 12], [(10, [3, 4, 8, 9])]), (17, [0, 1, 2, 3, 4, 5, 6, 7, 8, 9, 10, 11, 12, 13, 14, 15, 16, 17], [(15, [8, 9, 12, 13, 14]), (17, [8, 9, 12, 13, 14, 16])]), (22, [0, 1, 2, 3, 4, 5, 6, 7, 8, 9, 10, 11, 12], [(10, [3, 4, 8, 9])]), (23, [0, 1, 2, 3, 4, 5, 6, 7, 8, 9, 10, 11, 12, 13, 14, 15, 16, 17], [(15, [8, 9, 12, 13, 14]), (17, [8, 9, 12, 13, 14, 16])])]
def Try.vs88 : List Go.Tmp := [0, 1, 2, 3, 4, 10, 11, 12]
def Try.cs88 : List Go.Tmp := [47, 65, 70]
def Try.tab88 : Go.Abs.Tab := [(1, [0, 1, 2, 3, 4, 5, 6, 7, 8, 9, 10, 11, 12, 13, 14, 15], [(13, [6, 7, 10, 11, 12]), (15, [6, 7, 10, 11, 12, 14])]), (3, [0, 1, 2, 3, 4, 5, 6, 7, 8, 9, 10, 11, 12, 13, 14, 15, 16], [(13, [7, 8, 11, 12])]), (5, [0, 1, 2, 3, 4, 5, 6, 7, 8, 9, 10, 11, 12, 13, 14, 15], [(13, [7, 8, 11, 12])]), (8, [0, 1, 2, 3, 4, 5, 6, 7, 8, 9, 10, 11, 12, 13, 14, 15], [(13, [6, 7, 10, 11, 12]), (15, [6, 7, 10, 11, 12, 14])])]
def Try.vs89 : List Go.Tmp := [0, 1, 2, 3, 4, 10, 11, 12, 13]
def Try.cs89 : List Go.Tmp := [47, 66, 71, 120, 139, 144]
def Try.tab89 : Go.Abs.Tab := [(1, [0, 1, 2, 3, 4, 5, 6, 7, 8, 9, 10, 11, 12, 13, 14, 15], [(13, [6, 7, 10, 11, 12]), (15, [6, 7, 10, 11, 12, 14])]), (3, [0, 1, 2, 3, 4, 5, 6, 7, 8, 9, 10, 11, 12, 13, 14, 15], [(13, [7, 8, 11, 12])]), (5, [0, 1, 2, 3, 4, 5, 6, 7, 8, 9, 10, 11, 12, 13, 14, 15, 16], [(13, [7, 8, 11, 12])]), (8, [0, 1, 2, 3, 4, 5, 6, 7, 8, 9, 10, 11, 12, 13, 14, 15], [(13, [6, 7, 10, 11, 12]), (15, [6, 7, 10, 11, 12, 14])]), (10, [0, 1, 2, 3, 4, 5, 6, 7, 8, 9, 10, 11, 12, 13, 14, 15], [(13, [6, 7, 10, 11, 12]), (15, [6, 7, 10, 11, 12, 14])]), (13, [0, 1, 2, 3, 4, 5, 6, 7, 8, 9, 10, 11, 12, 13, 14, 15], [(13, [7, 8, 11, 12])]), (15, [0, 1, 2, 3, 4, 5, 6, 7, 8, 9, 10, 11, 12, 13, 14, 15, 16], [(13, [7, 8, 11, 12])]), (18, [0, 1, 2, 3, 4, 5, 6, 7, 8, 9, 10, 11, 12, 13, 14, 15], [(13, [6, 7, 10, 11, 12]), (15, [6, 7, 10, 11, 12, 14])]), (21, [0, 1, 2, 3, 4, 5, 6, 7, 8, 9, 10, 11, 12, 13, 14, 15], [(13, [6, 7, 10, 11, 12]), (15, [6, 7, 10, 11, 12, 14])])]
def Try.vs90 : List Go.Tmp := [0, 2]
def Try.cs90 : List Go.Tmp := [4, 8]
def Try.tab90 : Go.Abs.Tab := []
def Try.vs91 : List Go.Tmp := [0, 2]
def Try.cs91 : List Go.Tmp := [4, 8, 14]
def Try.tab91 : Go.Abs.Tab := []
def Try.vs92 : List Go.Tmp := [0, 1, 2, 3, 8, 9]
def Try.cs92 : List Go.Tmp := [14, 34]
def Try.tab92 : Go.Abs.Tab := [(4, [0, 1, 2, 3, 4, 5, 6, 7, 8, 9, 10, 11, 12, 13, 14, 15, 16], [(14, [7, 8, 12, 13])]), (6, [0, 1, 2, 3, 4, 5, 6, 7, 8, 9, 10, 11, 12, 13, 14, 15, 16, 17], [(15, [8, 9, 12, 13, 14]), (17, [8, 9, 12, 13, 14, 16])])]
def Try.vs93 : List Go.Tmp := [0, 1, 2, 3, 8, 9, 10, 11, 12]
def Try.cs93 : List Go.Tmp := [21, 33]
def Try.tab93 : Go.Abs.Tab := [(10, [0, 1, 2, 3, 4, 5, 6, 7, 8, 9, 10, 11, 12, 13, 14, 15, 16, 17, 18, 19], [(17, [10, 11, 14, 15, 16]), (19, [10, 11, 14, 15, 16, 18])])]
def Try.vs94 : List Go.Tmp := [0, 1, 2, 8, 9, 10, 11, 12]
def Try.cs94 : List Go.Tmp := [17, 35, 45]
def Try.tab94 : Go.Abs.Tab := [(10, [0, 1, 2, 3, 4, 5, 6, 7, 8, 9, 10, 11, 12, 13, 14, 15, 16, 17, 18, 19], [(17, [10, 11, 14, 15, 16]), (19, [10, 11, 14, 15, 16, 18])])]
def Try.vs95 : List Go.Tmp := [0, 1, 2, 3, 8, 9, 10, 11, 12, 13, 14, 55, 57, 60]
def Try.cs95 : List Go.Tmp := [34, 36]
def Try.tab95 : Go.Abs.Tab := []
def Try.vs96 : List Go.Tmp := [0, 1, 2, 8, 9]
def Try.cs96 : List Go.Tmp := [15]
def Try.tab96 : Go.Abs.Tab := [(3, [0, 1, 2, 3, 4, 5, 6, 7, 8, 9, 10, 11, 12, 13, 14, 15], [(13, [6, 7, 10, 11, 12]), (15, [6, 7, 10, 11, 12, 14])])]
def Try.vs97 : List Go.Tmp := [0, 1, 2, 3, 8, 9, 10, 11, 12]
def Try.cs97 : List Go.Tmp := [16, 36, 41, 45, 65, 69, 84, 104, 109, 124]
def Try.tab97 : Go.Abs.Tab := [(5, [0, 1, 2, 3, 4, 5, 6, 7, 8, 9, 10, 11, 12, 13, 14, 15, 16, 17], [(14, [7, 8, 12, 13])]), (11, [0, 1, 2, 3, 4, 5, 6, 7, 8, 9, 10, 11, 12, 13, 14, 15, 16, 17], [(15, [8, 9, 12, 13, 14]), (17, [8, 9, 12, 13, 14, 16])]), (16, [0, 1, 2, 3, 4, 5, 6, 7, 8, 9, 10, 11, 12], [(10, [3, 4, 8, 9])]), (17, [0, 1, 2, 3, 4, 5, 6, 7, 8, 9, 10, 11, 12, 13, 14, 15, 16, 17], [(15, [8, 9, 12, 13, 14]), (17, [8, 9, 12, 13, 14, 16])]), (22, [0, 1, 2, 3, 4, 5, 6, 7, 8, 9, 10, 11, 12], [(10, [3, 4, 8, 9])]), (23, [0, 1, 2, 3, 4, 5, 6, 7, 8, 9, 10, 11, 12, 13, 14, 15, 16, 17], [(15, [8, 9, 12, 13, 14]), (17, [8, 9, 12, 13, 14, 16])])]
def Try.vs98 : List Go.Tmp := [0, 1, 2, 3, 4, 10, 11, 12]
def Try.cs98 : List Go.Tmp := [47, 65, 70]
def Try.tab98 : Go.Abs.Tab := [(1, [0, 1, 2, 3, 4, 5, 6, 7, 8, 9, 10, 11, 12, 13, 14, 15], [(13, [6, 7, 10, 11, 12]), (15, [6, 7, 10, 11, 12, 14])]), (3, [0, 1, 2, 3, 4, 5, 6, 7, 8, 9, 10, 11, 12, 13, 14, 15, 16], [(13, [7, 8, 11, 12])]), (5, [0, 1, 2, 3, 4, 5, 6, 7, 8, 9, 10, 11, 12, 13, 14, 15], [(13, [7, 8, 11, 12])]), (8, [0, 1, 2, 3, 4, 5, 6, 7, 8, 9, 10, 11, 12, 13, 14, 15], [(13, [6, 7, 10, 11, 12]), (15, [6, 7, 10, 11, 12, 14])])]
def Try.vs99 : List Go.Tmp := [0, 1, 2, 3, 4, 10, 11, 12, 13]
def Try.cs99 : List Go.Tmp := [47, 66, 71, 120, 139, 144]
def Try.tab99 : Go.Abs.Tab := [(1, [0, 1, 2, 3, 4, 5, 6, 7, 8, 9, 10, 11, 12, 13, 14, 15], [(13, [6, 7, 10, 11, 12]), (15, [6, 7, 10, 11, 12, 14])]), (3, [0, 1, 2, 3, 4, 5, 6, 7, 8, 9, 10, 11, 12, 13, 14, 15], [(13, [7, 8, 11, 12])]), (5, [0, 1, 2, 3, 4, 5, 6, 7, 8, 9, 10, 11, 12, 13, 14, 15, 16], [(13, [7, 8, 11, 12])]), (8, [0, 1, 2, 3, 4, 5, 6, 7, 8, 9, 10, 11, 12, 13, 14, 15], [(13, [6, 7, 10, 11, 12]), (15, [6, 7, 10, 11, 12, 14])]), (10, [0, 1, 2, 3, 4, 5, 6, 7, 8, 9, 10, 11, 12, 13, 14, 15], [(13, [6, 7, 10, 11, 12]), (15, [6, 7, 10, 11, 12, 14])]), (13, [0, 1, 2, 3, 4, 5, 6, 7, 8, 9, 10, 11, 12, 13, 14, 15], [(13, [7, 8, 11, 12])]), (15, [0, 1, 2, 3, 4, 5, 6, 7, 8, 9, 10, 11, 12, 13, 14, 15, 16], [(13, [7, 8, 11, 12])]), (18, [0, 1, 2, 3, 4, 5, 6, 7, 8, 9, 10, 11, 12, 13, 14, 15], [(13, [6, 7, 10, 11, 12]), (15, [6, 7, 10, 11, 12, 14])]), (21, [0, 1, 2, 3, 4, 5, 6, 7, 8, 9, 10, 11, 12, 13, 14, 15], [(13, [6, 7, 10, 11, 12]), (15, [6, 7, 10, 11, 12, 14])])]
def Try.vs100 : List Go.Tmp := [0, 2]
def Try.cs100 : List Go.Tmp := [25]
def Try.tab100 : Go.Abs.Tab := []
def Try.vs101 : List Go.Tmp := [0, 1, 2, 3, 4, 10, 11]
def Try.cs101 : List Go.Tmp := [18, 40, 58]
def Try.tab101 : Go.Abs.Tab := [(3, [0, 1, 2, 3, 4, 5, 6, 7, 8, 9, 10, 11, 12, 13, 14, 15, 16, 17, 18, 19, 20, 21], [(19, [10, 11, 17, 18])]), (5, [0, 1, 2, 3, 4, 5, 6, 7, 8, 9, 10, 11, 12, 13, 14, 15], [(13, [5, 6, 11, 12])]), (6, [0, 1, 2, 3, 4, 5, 6, 7, 8, 9, 10, 11, 12, 13, 14, 15, 16, 17, 18, 19, 20, 21, 22, 23], [(21, [12, 13, 18, 19, 20]), (23, [12, 13, 18, 19, 20, 22])])]
def Try.vs102 : List Go.Tmp := [0, 2]
def Try.cs102 : List Go.Tmp := []
def Try.tab102 : Go.Abs.Tab := []
def Try.vs103 : List Go.Tmp := [0, 2]
def Try.cs103 : List Go.Tmp := []
def Try.tab103 : Go.Abs.Tab := [(1, [0, 1, 2, 3, 4, 5, 6, 7, 8, 9], [(9, [2, 5])]), (2, [0, 1, 2, 3, 4, 5, 6, 7, 8, 9], [(9, [2, 5])]), (3, [0, 1, 2, 3, 4, 5, 6, 7, 8, 9], [(9, [2, 5])])]
def Try.vs104 : List Go.Tmp := [0, 1, 2, 3, 8]
def Try.cs104 : List Go.Tmp := []
def Try.tab104 : Go.Abs.Tab := []
def Try.vs105 : List Go.Tmp := [0, 1, 2, 3, 4, 5, 12]
def Try.cs105 : List Go.Tmp := []
def Try.tab105 : Go.Abs.Tab := []
def Try.vs106 : List Go.Tmp := [0, 1, 2, 3, 4, 10, 11]
def Try.cs106 : List Go.Tmp := [18, 40, 58]
def Try.tab106 : Go.Abs.Tab := [(3, [0, 1, 2, 3, 4, 5, 6, 7, 8, 9, 10, 11, 12, 13, 14, 15, 16, 17, 18, 19, 20, 21], [(19, [10, 11, 17, 18])]), (5, [0, 1, 2, 3, 4, 5, 6, 7, 8, 9, 10, 11, 12, 13, 14, 15], [(13, [5, 6, 11, 12])]), (6, [0, 1, 2, 3, 4, 5, 6, 7, 8, 9, 10, 11, 12, 13, 14, 15, 16, 17, 18, 19, 20, 21, 22, 23], [(21, [12, 13, 18, 19, 20]), (23, [12, 13, 18, 19, 20, 22])])]
def Try.vs107 : List Go.Tmp := [0, 1, 2, 3, 8]
def Try.cs107 : List Go.Tmp := []
def Try.tab107 : Go.Abs.Tab := []
def Try.vs108 : List Go.Tmp := [0, 1, 2, 3, 4, 5, 12]
def Try.cs108 : List Go.Tmp := []
def Try.tab108 : Go.Abs.Tab := []
def Try.vs109 : List Go.Tmp := [0, 2, 3, 4]
def Try.cs109 : List Go.Tmp := [7, 15]
def Try.tab109 : Go.Abs.Tab := []
def Try.vs110 : List Go.Tmp := [0, 2, 3, 4]
def Try.cs110 : List Go.Tmp := [7, 15]
def Try.tab110 : Go.Abs.Tab := []
def Try.vs111 : List Go.Tmp := [0, 1, 2, 3, 4, 10, 11]
def Try.cs111 : List Go.Tmp := [22]
def Try.tab111 : Go.Abs.Tab := [(1, [0, 1, 2, 3, 4, 5, 6, 7, 8, 9, 10], [(9, [3, 4, 7, 8])])]
def Try.vs112 : List Go.Tmp := [0, 1, 2, 3, 4, 10, 11]
def Try.cs112 : List Go.Tmp := [22]
def Try.tab112 : Go.Abs.Tab := [(1, [0, 1, 2, 3, 4, 5, 6, 7, 8, 9, 10], [(9, [3, 4, 7, 8])])]
end Go.Proofs

/-
  Contracts of small functions.
-/
namespace Go.Proofs
open Go.Abs

theorem take_succ_eq {α : Type} {xs ys : List α} {k : Nat} (h : xs.take k = ys.take k) (h1 : xs[k]? = ys[k]?) : xs.take (k + 1) = ys.take (k + 1) := by
  rw [List.take_succ, List.take_succ, h, h1]

set_option maxRecDepth 100000 in
theorem SameInts_call (G : Nat → Option AV) (a b : AV) (xs ys : List Int) (h : AH) (K : AV → AH → Prop) (ha : Ints h a xs) (hb : Ints h b ys) (hx : xs.length ≤ 4611686018427387904) (hk : K (.v (.bool (xs == ys))) h) : SCall Try.prog G 12 [a, b] h K := by
  refine scall_of_awp Try.tab12 Try.vs12 Try.cs12 Try.func12 rfl Try.ntmps12 (by kernel_rfl) (by show 2 ≤ _; decide) (by kernel_rfl) ?_
  intro hl
  rw [Try.results12]
  have la := ha.len (P := Try.prog) (t := 31) Try.und31
  have lb := hb.len (P := Try.prog) (t := 31) Try.und31
  simp only [List.length_map] at la lb
  simp -implicitDefEqProofs [go_sem, Try.vs12, Try.cs12, Try.tab12, la, lb]
  split
  · rename_i hlen
    refine loop_rule Try.tab12 Try.vs12 Try.cs12 (fun n e h' => ∃ k : Nat, k ≤ xs.length ∧ n = xs.length - k ∧ xs.take k = ys.take k ∧ h' = h ∧ e = [(0, a), (1, b), (4, .v (.bool false)), (5, .v (.int .i64 k))]) xs.length (by kernel_rfl) ⟨0, by omega, rfl, rfl, rfl, rfl⟩ ?_
    rintro n e h' ⟨k, hk1, rfl, hk2, rfl, rfl⟩
    by_cases hkl : k < xs.length
    · obtain ⟨p, p1, p2⟩ := ha.ia (P := Try.prog) (t := 31) (k := .i64) (i := k) Try.und31 Try.siz3 (by omega) (map_get (by simpa using hkl))
      obtain ⟨q, q1, q2⟩ := hb.ia (P := Try.prog) (t := 31) (k := .i64) (i := k) Try.und31 Try.siz3 (by omega) (map_get (by simp; omega))
      simp -implicitDefEqProofs [go_sem, Try.vs12, Try.cs12, Try.tab12, la, lb, p1, p2, q1, q2, hkl]
      have hky : k < ys.length := by omega
      split
      · rename_i he
        refine ⟨xs.length - (k + 1), by omega, k + 1, by omega, rfl, take_succ_eq hk2 ?_, wrap64_of (by omega) (by omega)⟩
        simp [hky] at he
        simp [hkl, hky, he]
      · rename_i he
        refine retQ_same rfl ?_
        have : (xs == ys) = false := by
          simp
          rintro rfl
          simp [hkl] at he
        rw [this] at hk
        exact hk
    · simp -implicitDefEqProofs [go_sem, Try.vs12, Try.cs12, Try.tab12, la, lb, hkl]
      refine retQ_same rfl ?_
      have : (xs == ys) = true := by
        simp
        rw [List.take_of_length_le (by omega), List.take_of_length_le (by omega)] at hk2
        exact hk2
      rw [this] at hk
      exact hk
  · rename_i hlen
    refine retQ_same rfl ?_
    have : (xs == ys) = false := by
      simp
      rintro rfl
      exact hlen rfl
    rw [this] at hk
    exact hk
end Go.Proofs

/-
  Contracts: a number as a string.
-/
namespace Go.Proofs
open Go.Abs

/-- Bytes as a string. -/
abbrev bs (l : List UInt8) : ByteArray := ⟨l.toArray⟩
/-- A number's bytes, the lowest one first. -/
def digs : Nat → List UInt8
  | 0 => []
  | n + 1 => UInt8.ofNat ((n + 1) % 256) :: digs ((n + 1) / 256)
theorem digs_pos {u : Nat} (h : 0 < u) : digs u = UInt8.ofNat (u % 256) :: digs (u / 256) := by
  obtain ⟨v, rfl⟩ : ∃ v, u = v + 1 := ⟨u - 1, by omega⟩
  rw [digs]
theorem digs_len : ∀ (k u : Nat), u < 256 ^ k → (digs u).length ≤ k
  | k, 0, _ => by rw [digs]; simp
  | 0, u + 1, h => by simp at h
  | k + 1, u + 1, h => by
    rw [digs, List.length_cons]
    have := digs_len k ((u + 1) / 256) (by rw [Nat.pow_succ] at h; omega)
    omega

/-- A number as one without a sign. -/
def u64 (n : Int) : Nat := (IntKind.u64.wrap n).toNat
theorem u64_wrap (n : Int) : IntKind.u64.wrap n = (u64 n : Int) := by
  unfold u64 IntKind.wrap
  simp [IntKind.bits, IntKind.signed]
  omega
theorem u64_lt (n : Int) : u64 n < 256 ^ 8 := by
  have := u64_wrap n
  unfold IntKind.wrap at this
  simp [IntKind.bits, IntKind.signed] at this
  have : (256 ^ 8 : Nat) = 18446744073709551616 := by decide
  omega
theorem wrapu64_nat {u : Nat} (h : u < 256 ^ 8) : IntKind.u64.wrap (u : Int) = u := by
  have : (256 ^ 8 : Nat) = 18446744073709551616 := by decide
  unfold IntKind.wrap
  simp [IntKind.bits, IntKind.signed]
  omega
theorem wrapu8_byte (u : Nat) : UInt8.ofNat (IntKind.u8.wrap (u : Int)).toNat = UInt8.ofNat u := by
  unfold IntKind.wrap
  simp [IntKind.bits, IntKind.signed]
  apply UInt8.toNat_inj.mp
  simp
  omega
theorem bs_append (a b : List UInt8) : bs a ++ bs b = bs (a ++ b) := by
  apply ByteArray.ext
  simp [ByteArray.data_append]

set_option maxRecDepth 100000 in
theorem Number_call (G : Nat → Option AV) (n : Int) (h : AH) (K : AV → AH → Prop) (hk : K (.v (.string (bs (UInt8.ofNat (digs (u64 n)).length :: digs (u64 n))))) h) : SCall Try.prog G 69 [.v (.int .i64 n)] h K := by
  refine scall_of_awp Try.tab69 Try.vs69 Try.cs69 Try.func69 rfl Try.ntmps69 (by kernel_rfl) (by show 1 ≤ _; decide) (by kernel_rfl) ?_
  intro hl
  rw [Try.results69]
  have hlt := u64_lt n
  have hlen := digs_len 8 _ hlt
  simp -implicitDefEqProofs [go_sem, Try.vs69, Try.cs69, Try.tab69]
  refine loop_rule Try.tab69 Try.vs69 Try.cs69 (fun m e h' => ∃ (u : Nat) (l : List UInt8) (t : AH), h' = h ++ t ∧ u < 256 ^ m ∧ m ≤ 8 ∧ l ++ digs u = digs (u64 n) ∧ e = [(0, .v (.int .i64 n)), (2, .v (.string (bs []))), (3, .v (.int .u64 u)), (4, .v (.string (bs l)))]) 8 (by kernel_rfl) ⟨u64 n, [], [], (List.append_nil h).symm, hlt, Nat.le_refl _, List.nil_append _, ?_⟩ ?_
  · rw [u64_wrap]
  · rintro m e h' ⟨u, l, t, rfl, h1, hm8, h2, rfl⟩
    generalize hh : h ++ t = h1
    have hll : l.length ≤ 8 := by have := congrArg List.length h2; simp at this; omega
    by_cases hu : 0 < u
    · simp -implicitDefEqProofs [go_sem, Try.vs69, Try.cs69, Try.tab69, hu]
      obtain ⟨m, rfl⟩ : ∃ k, m = k + 1 := ⟨m - 1, by
        rcases Nat.eq_zero_or_pos m with rfl | h
        · simp at h1; omega
        · omega⟩
      refine ⟨by omega, m, by omega, ⟨t ++ _, by rw [← hh, List.append_assoc]⟩, u / 256, ?_, by omega, l ++ [UInt8.ofNat (u % 256)], ?_, ?_, ?_⟩
      · rw [Nat.pow_succ] at h1; omega
      · rw [List.append_assoc, List.singleton_append, ← digs_pos hu, h2]
      · have h3 : u < 256 ^ 8 := Nat.lt_of_lt_of_le h1 (Nat.pow_le_pow_right (by decide) (by omega))
        have : u / 256 < 256 ^ 8 := by omega
        have e := wrapu64_nat this
        rw [← e]
        congr 1
      · have e : ((u : Int)).tmod 256 = ((u % 256 : Nat) : Int) := by
          rw [Int.tmod_eq_emod_of_nonneg (by omega)]
          omega
        rw [e, wrapu8_byte]
        exact bs_append l [UInt8.ofNat (u % 256)]
    · simp -implicitDefEqProofs [go_sem, Try.vs69, Try.cs69, Try.tab69, hu]
      have hu0 : u = 0 := by omega
      subst hu0
      rw [digs, List.append_nil] at h2
      subst h2
      refine ⟨by omega, ?_⟩
      have e : ∀ x : UInt8, ({ data := #[x] } : ByteArray) ++ bs (digs (u64 n)) = bs (x :: digs (u64 n)) := fun x => bs_append [x] _
      rw [wrapu8_byte, e, ← hh, List.append_assoc]
      exact retQ_tail hl rfl .v hk
end Go.Proofs

/-
  Contracts: a number's bytes behind others.
-/
namespace Go.Proofs
open Go.Abs
/-- The lowest bytes of a number. -/
def lows (n : Nat) : Nat → List UInt8
  | 0 => []
  | k + 1 => lows n k ++ [UInt8.ofNat (n / 256 ^ k % 256)]
theorem lows_len (n : Nat) : ∀ k, (lows n k).length = k
  | 0 => rfl
  | k + 1 => by rw [lows, List.length_append, lows_len n k]; rfl
abbrev brow (b : UInt8) : List AV := [.v (.int .u8 b.toNat)]

theorem retQ_drop {P : Program} {e : Env} {rs : List ResultVar} {h0 A l : AH} {vs : List AV} {K : AV → AH → Prop} (hlen : h0.length ≤ A.length) (hl : LowH A.length A) (hv : aRes P e (A ++ l) rs = some vs) (hlow : Low A.length (one vs)) (hk : K (one vs) A) : retQ P rs h0 K .ret e (A ++ l) := by
  simp only [retQ, hv]
  exact fun _ => ⟨_, A, hlen, Drop.tail hl, Sh.low (Drop.tail hl) hlow, hk⟩
theorem LowH.set {n id : Nat} {h : AH} {o : AO} (hl : LowH n h) (ho : LowO n o) : LowH n (h.set id (some o)) := by
  intro i o2 h2
  rw [List.getElem?_set] at h2
  split at h2
  · split at h2
    · obtain rfl := Option.some.inj (Option.some.inj h2)
      exact ho
    · cases h2
  · exact hl i o2 h2
theorem low_brow {n : Nat} {l : List UInt8} {e : TypeId} {g : Nat} : LowO n (.cells e 1 (l.map brow) g) := by
  intro r hr c hc
  obtain ⟨b, _, rfl⟩ := List.mem_map.mp hr
  simp at hc
  subst hc
  exact .v
theorem u8_byte (x : Nat) : IntKind.u8.wrap (x : Int) = ((UInt8.ofNat (x % 256)).toNat : Int) := by
  unfold IntKind.wrap
  simp [IntKind.bits, IntKind.signed]
theorem cast_div (n k : Nat) : ((n : Int) / 256 ^ k) = ((n / 256 ^ k : Nat) : Int) := by simp
theorem fdiv_pow (n k : Nat) : ((n / 256 ^ k : Nat) : Int).fdiv 256 = ((n / 256 ^ (k + 1) : Nat) : Int) := by
  rw [Int.fdiv_eq_ediv_of_nonneg _ (by omega), Nat.pow_succ, ← Nat.div_div_eq_div_mul]
  omega

set_option maxRecDepth 100000 in
theorem onto_call (G : Nat → Option AV) (n many id gen : Nat) (l : List UInt8) (h : AH) (K : AV → AH → Prop) (hn : n < 256 ^ 8) (hm : many ≤ 8) (ho : h[id]? = some (some (.cells 5 1 (l.map brow) gen))) (hl8 : l.length ≤ 1099511627776)
    (hk : K (.sl id (gen + many) 0 (l.length + many) none) (h.set id (some (.cells 5 1 ((l ++ lows n many).map brow) (gen + many))))) :
    SCall Try.prog G 81 [.agg [.v (.int .u64 n), .v (.int .i64 many)], .sl id gen 0 l.length none] h K := by
  refine scall_of_awp Try.tab81 Try.vs81 Try.cs81 Try.func81 rfl Try.ntmps81 (by kernel_rfl) (by show 2 ≤ _; decide) (by kernel_rfl) ?_
  intro hl
  rw [Try.results81]
  simp -implicitDefEqProofs [go_sem, Try.vs81, Try.cs81, Try.tab81]
  have hid : id < h.length := (List.getElem?_eq_some_iff.mp ho).1
  refine loop_rule Try.tab81 Try.vs81 Try.cs81 (fun m e h' => ∃ (k : Nat) (t : AH), k ≤ many ∧ m = many - k ∧ h' = h.set id (some (.cells 5 1 ((l ++ lows n k).map brow) (gen + k))) ++ some (.cells 157 2 [[.v (.int .u64 (n / 256 ^ k : Nat)), .v (.int .i64 many)]] 0) :: t ∧ e = [(0, .agg [.v (.int .u64 n), .v (.int .i64 many)]), (1, .sl id (gen + k) 0 (l.length + k) none), (2, .ptr h.length 0 0 0), (4, .v (.slice none 0 0)), (6, .v (.int .i64 many)), (7, .v (.int .i64 k))]) many (by kernel_rfl) ⟨0, [], by omega, rfl, ?_, ?_⟩ ?_
  · rw [Nat.pow_zero, Nat.div_one, lows, List.append_nil, Nat.add_zero]
    have : h.set id (some (.cells 5 1 (l.map brow) gen)) = h := by
      apply List.ext_getElem?
      intro i
      rw [List.getElem?_set]
      split
      · rename_i he
        subst he
        first
          | rw [if_pos hid, ho]
          | exact ho.symm
      · rfl
    rw [this]
  · simp
  · rintro m e h' ⟨k, t, hk1, rfl, rfl, rfl⟩
    generalize hA : h.set id (some (.cells 5 1 ((l ++ lows n k).map brow) (gen + k))) = A
    have hAl : A.length = h.length := by rw [← hA]; simp
    have hAi : A[id]? = some (some (.cells 5 1 ((l ++ lows n k).map brow) (gen + k))) := by rw [← hA]; simp [hid]
    have hidA : id < A.length := by omega
    rw [← hAl]
    generalize hX : (AO.cells 157 2 [[.v (.int .u64 (n / 256 ^ k : Nat)), .v (.int .i64 many)]] 0) = X
    have hget : ∀ B : AH, (A ++ B)[id]? = some (some (.cells 5 1 ((l ++ lows n k).map brow) (gen + k))) := fun B => by rw [List.getElem?_append_left hidA]; exact hAi
    have hset : ∀ (B : AH) y, (A ++ B).set id y = A.set id y ++ B := fun B y => List.set_append_left _ _ hidA
    by_cases hkm : k < many
    · subst hX
      simp -implicitDefEqProofs [go_sem, Try.vs81, Try.cs81, Try.tab81, hkm]
      refine app_sl (b := 1) (new := [[.v (.int .u8 (IntKind.u8.wrap (n / 256 ^ k)))]]) (rows := (l ++ lows n k).map brow) Try.und112 Try.azero5 Try.byt5 Try.plainSrc112 (hget _) ?_ ?_ (by simp) (by rintro ⟨s, h⟩; cases h) ?_ ?_ ?_
      · simp [lows_len]
      · simp [srcRows, rowsOf, chk]
      · simp [lows_len]; omega
      · simp [lows_len]; omega
      · rw [hset]
        have hAl2 : (A.set id (some (AO.cells 5 1 ((l ++ lows n k).map brow ++ [[.v (.int .u8 (IntKind.u8.wrap (n / 256 ^ k)))]]) (gen + k + 1)))).length = A.length := by simp
        rw [← hAl2]
        generalize hA2 : A.set id (some (AO.cells 5 1 ((l ++ lows n k).map brow ++ [[.v (.int .u8 (IntKind.u8.wrap (n / 256 ^ k)))]]) (gen + k + 1))) = A2
        simp -implicitDefEqProofs [go_sem, Try.vs81, Try.cs81, Try.tab81, hkm]
        refine ⟨many - (k + 1), by omega, k + 1, by omega, rfl, ⟨t ++ [some (.cells 5 1 [[.v (.int .u8 (IntKind.u8.wrap (n / 256 ^ k)))]] 0)], ?_⟩, ⟨by omega, by omega⟩, wrap64_of (by omega) (by omega)⟩
        rw [← hA2, ← hA, List.set_set, cast_div, cast_div, fdiv_pow, u8_byte, lows]
        simp only [List.map_append, List.map_cons, List.map_nil, List.append_assoc, List.cons_append, Nat.add_assoc]
    · simp -implicitDefEqProofs [go_sem, Try.vs81, Try.cs81, Try.tab81, hkm]
      have hkk : k = many := by omega
      subst hkk
      rw [← hA]
      refine retQ_drop (by simp) ?_ rfl (.sl (by simpa using hid)) hk
      rw [List.length_set]
      exact LowH.set hl low_brow
set_option maxRecDepth 100000 in
theorem low_call (G : Nat → Option AV) (n many id gen : Nat) (l : List UInt8) (h : AH) (K : AV → AH → Prop) (hn : n < 256 ^ 8) (hm : many ≤ 8) (ho : h[id]? = some (some (.cells 5 1 (l.map brow) gen))) (hl8 : l.length ≤ 1099511627776)
    (hk : K (.sl id (gen + many) 0 (l.length + many) none) (h.set id (some (.cells 5 1 ((l ++ lows n many).map brow) (gen + many))))) :
    SCall Try.prog G 68 [.sl id gen 0 l.length none, .v (.int .u64 n), .v (.int .i64 many)] h K := by
  refine scall_of_awp Try.tab68 Try.vs68 Try.cs68 Try.func68 rfl Try.ntmps68 (by kernel_rfl) (by show 3 ≤ _; decide) (by kernel_rfl) ?_
  intro hl
  rw [Try.results68]
  simp -implicitDefEqProofs [go_sem, Try.vs68, Try.cs68, Try.tab68]
  refine onto_call G n many id gen l h _ hn hm ho hl8 ?_
  simp -implicitDefEqProofs [go_sem, Try.vs68, Try.cs68, Try.tab68]
  refine retQ_keep rfl ?_
  simpa [one] using hk
end Go.Proofs

/-
  Contracts: a number behind how many bytes it has.
-/
namespace Go.Proofs
open Go.Abs
theorem lows_digs : ∀ (u k : Nat), lows u (k + (digs (u / 256 ^ k)).length) = lows u k ++ digs (u / 256 ^ k) := by
  intro u k
  generalize hd : u / 256 ^ k = v
  induction v using Nat.strongRecOn generalizing k with
  | _ v ih =>
    rcases Nat.eq_zero_or_pos v with rfl | hv
    · rw [digs]; simp
    · rw [digs_pos hv]
      have h1 : u / 256 ^ (k + 1) = v / 256 := by rw [Nat.pow_succ, ← Nat.div_div_eq_div_mul, hd]
      have := ih (v / 256) (by omega) (k + 1) h1
      rw [List.length_cons, show k + ((digs (v / 256)).length + 1) = k + 1 + (digs (v / 256)).length by omega, this, lows, hd]
      simp
theorem lows_all (u : Nat) : lows u (digs u).length = digs u := by
  have := lows_digs u 0
  simpa [lows] using this

set_option maxRecDepth 100000 in
theorem number_call (G : Nat → Option AV) (n : Int) (id gen : Nat) (l : List UInt8) (h : AH) (K : AV → AH → Prop) (ho : h[id]? = some (some (.cells 5 1 (l.map brow) gen))) (hl8 : l.length ≤ 1000000000000)
    (hk : K (.sl id (gen + 1 + (digs (u64 n)).length) 0 (l.length + 1 + (digs (u64 n)).length) none) (h.set id (some (.cells 5 1 ((l ++ UInt8.ofNat (digs (u64 n)).length :: digs (u64 n)).map brow) (gen + 1 + (digs (u64 n)).length))))) :
    SCall Try.prog G 45 [.sl id gen 0 l.length none, .v (.int .i64 n)] h K := by
  refine scall_of_awp Try.tab45 Try.vs45 Try.cs45 Try.func45 rfl Try.ntmps45 (by kernel_rfl) (by show 2 ≤ _; decide) (by kernel_rfl) ?_
  intro hl
  rw [Try.results45]
  have hlt := u64_lt n
  have hlen := digs_len 8 _ hlt
  have hid : id < h.length := (List.getElem?_eq_some_iff.mp ho).1
  simp -implicitDefEqProofs [go_sem, Try.vs45, Try.cs45, Try.tab45]
  refine loop_rule Try.tab45 Try.vs45 Try.cs45 (fun m e h' => ∃ (k u : Nat), k + (digs u).length = (digs (u64 n)).length ∧ m = (digs u).length ∧ u < 256 ^ 8 ∧ h' = h ∧ e = [(0, .sl id gen 0 l.length none), (1, .v (.int .i64 n)), (4, .v (.slice none 0 0)), (5, .v (.int .i64 k)), (6, .v (.int .u64 u))]) (digs (u64 n)).length (by kernel_rfl) ⟨0, u64 n, by simp, rfl, hlt, rfl, ?_⟩ ?_
  · rw [u64_wrap]; rfl
  · rintro m e h' ⟨k, u, h1, rfl, hu8, rfl, rfl⟩
    by_cases hu : 0 < u
    · rw [digs_pos hu] at h1 ⊢
      simp -implicitDefEqProofs [go_sem, Try.vs45, Try.cs45, Try.tab45, hu]
      have h8 : (256 ^ 8 : Nat) = 18446744073709551616 := by decide
      simp only [List.length_cons] at h1
      refine ⟨(digs (u / 256)).length, by omega, k + 1, u / 256, by omega, rfl, by omega, wrap64_of (by omega) (by omega), ?_⟩
      rw [Int.fdiv_eq_ediv_of_nonneg _ (by omega)]
      rfl
    · simp -implicitDefEqProofs [go_sem, Try.vs45, Try.cs45, Try.tab45, hu]
      have hu0 : u = 0 := by omega
      subst hu0
      rw [digs, List.length_nil, Nat.add_zero] at h1
      subst h1
      refine app_sl (b := 1) (new := [brow (UInt8.ofNat (digs (u64 n)).length)]) (rows := l.map brow) (gen := gen) Try.und112 Try.azero5 Try.byt5 Try.plainSrc112 ?_ (by simp) ?_ (by simp) (by rintro ⟨s, h⟩; cases h) ?_ ?_ ?_
      · rw [List.getElem?_append_left hid]; exact ho
      · have e : IntKind.u8.wrap ((digs (u64 n)).length : Int) = ((UInt8.ofNat (digs (u64 n)).length).toNat : Int) := by
          rw [u8_byte]; simp
        simp [srcRows, rowsOf, chk, e]
      · simp; omega
      · simp; omega
      · rw [List.set_append_left _ _ hid, u64_wrap]
        have e1 : l.length + [brow (UInt8.ofNat (digs (u64 n)).length)].length = (l ++ [UInt8.ofNat (digs (u64 n)).length]).length := by simp
        have e2 : l.map brow ++ [brow (UInt8.ofNat (digs (u64 n)).length)] = (l ++ [UInt8.ofNat (digs (u64 n)).length]).map brow := by simp
        rw [e1, e2]
        refine low_call G (u64 n) _ id (gen + 1) _ _ _ hlt hlen ?_ (by simp; omega) ?_
        · rw [List.getElem?_append_left (by simpa using hid), List.getElem?_set_self hid]
        · rw [List.set_append_left _ _ (by simpa using hid), List.set_set, lows_all]
          refine retQ_drop (by simp) ?_ rfl (.sl (by simpa using hid)) ?_
          · rw [List.length_set]
            exact LowH.set hl low_brow
          · simpa [one, List.append_assoc, Nat.add_assoc] using hk
end Go.Proofs

/-
  Contracts: a field as a string.
-/
namespace Go.Proofs
open Go.Abs
/-- A field of a list: a text, or a number. -/
structure Fld where
  text : Bool
  n : Int
  s : List UInt8
abbrev Fld.cells (f : Fld) : List AV := [.v (.bool f.text), .v (.int .i64 f.n), .v (.string (bs f.s))]
def num (n : Int) : List UInt8 := UInt8.ofNat (digs (u64 n)).length :: digs (u64 n)
def Fld.bytes (f : Fld) : List UInt8 := if f.text then 84 :: (num f.s.length ++ f.s) else 78 :: num f.n
theorem num_len (n : Int) : (num n).length ≤ 9 := by
  have := digs_len 8 _ (u64_lt n)
  simp [num]; omega
theorem bs_size (l : List UInt8) : (bs l).size = l.length := rfl

set_option maxRecDepth 100000 in
theorem One_call (G : Nat → Option AV) (f : Fld) (h : AH) (K : AV → AH → Prop) (hs : f.s.length ≤ 1000000000000000) (hk : K (.v (.string (bs f.bytes))) h) : SCall Try.prog G 46 [.agg f.cells] h K := by
  refine scall_of_awp Try.tab46 Try.vs46 Try.cs46 Try.func46 rfl Try.ntmps46 (by kernel_rfl) (by show 1 ≤ _; decide) (by kernel_rfl) ?_
  intro hl
  rw [Try.results46]
  obtain ⟨text, n, s⟩ := f
  simp only at hs
  have hsz : (bs s).size = s.length := rfl
  cases text with
  | true =>
    simp -implicitDefEqProofs [go_sem, Try.vs46, Try.cs46, Try.tab46]
    refine Number_call G _ _ _ ?_
    have hl9 := num_len s.length
    rw [show (UInt8.ofNat (digs (u64 (s.length : Int))).length :: digs (u64 (s.length : Int))) = num s.length from rfl]
    simp -implicitDefEqProofs [go_sem, Try.vs46, Try.cs46, Try.tab46]
    refine ⟨by omega, by omega, ?_⟩
    rw [show ({ data := #[84] } : ByteArray) = bs [84] from rfl, bs_append, bs_append]
    exact retQ_tail hl rfl .v hk
  | false =>
    simp -implicitDefEqProofs [go_sem, Try.vs46, Try.cs46, Try.tab46]
    refine Number_call G _ _ _ ?_
    have hl9 := num_len n
    rw [show (UInt8.ofNat (digs (u64 n)).length :: digs (u64 n)) = num n from rfl]
    simp -implicitDefEqProofs [go_sem, Try.vs46, Try.cs46, Try.tab46]
    refine ⟨by omega, ?_⟩
    rw [show ({ data := #[78] } : ByteArray) = bs [78] from rfl, bs_append]
    exact retQ_tail hl rfl .v hk
end Go.Proofs

/-
  Contracts: the bytes of fields.
-/
namespace Go.Proofs
open Go.Abs
/-- Fields' bytes, as long as they are not too many. -/
def bytesF : List Fld → List UInt8 → List UInt8
  | [], b => b
  | f :: fs, b => if b.length ≤ 262144 then bytesF fs (b ++ f.bytes) else b
/-- Bytes so far: none yet, or an object. -/
inductive Acc (h : AH) : AV → AH → List UInt8 → Prop where
  | nil {t : AH} : Acc h (.v (.slice none 0 0)) (h ++ t) []
  | obj {t1 t2 : AH} {g : Nat} {b : List UInt8} : Acc h (.sl (h.length + t1.length) g 0 b.length none) (h ++ (t1 ++ some (.cells 5 1 (b.map brow) g) :: t2)) b
theorem Acc.len {h h' : AH} {x : AV} {b : List UInt8} (hc : Acc h x h' b) : aLen Try.prog h' 112 x = some (.v (.int .i64 b.length)) := by
  cases hc with
  | nil => rw [aLen_nil, Try.und112]; rfl
  | obj => rw [aLen_sl, Try.und112]; rfl
theorem src_str {h : AH} {y : List UInt8} : srcRows h (.v (.string (bs y))) = some (y.map brow) := rfl
set_option maxRecDepth 100000 in
theorem Acc.append {h h' : AH} {x : AV} {b y : List UInt8} {K : AV → AH → Prop} (hc : Acc h x h' b) (hl : b.length + y.length ≤ 100000000000000) (hk : ∀ x' h'', Acc h x' h'' (b ++ y) → K x' h'') : aApp Try.prog h' 112 9 x (.v (.string (bs y))) K := by
  cases hc with
  | @nil t =>
    refine app_nil (b := 1) (new := y.map brow) Try.und112 Try.azero5 Try.byt5 Try.plainSrc9 src_str (by simp) (fun _ => rfl) (by simp at *; omega) (by simp at *; omega) ?_
    refine hk _ _ ?_
    have := @Acc.obj h t [] 0 y
    simpa using this
  | @obj t1 t2 g b =>
    refine app_sl (b := 1) (new := y.map brow) (rows := b.map brow) Try.und112 Try.azero5 Try.byt5 Try.plainSrc9 Go.Abs.get_at (by simp) src_str (by simp) (fun _ => rfl) (by simp; omega) (by simp; omega) ?_
    rw [Go.Abs.set_at]
    refine hk _ _ ?_
    have := @Acc.obj h t1 t2 (g + 1) (b ++ y)
    simpa using this
theorem mapM_brow : ∀ b : List UInt8, (b.map brow).mapM byteOf? = some b
  | [] => rfl
  | x :: b => by
    rw [List.map_cons, List.mapM_cons, mapM_brow b]
    simp [byteOf?_mk]
theorem Acc.tail {h h' : AH} {x : AV} {b : List UInt8} (hc : Acc h x h' b) : ∃ t, h' = h ++ t := by
  cases hc <;> exact ⟨_, rfl⟩
theorem Acc.conv {h h' : AH} {x : AV} {b : List UInt8} (hc : Acc h x h' b) : aConv Try.prog h' 112 9 x = some (.v (.string (bs b))) := by
  cases hc with
  | nil => rw [aConv_nil, Try.und112, Try.und9]; simp [convB, Try.und5]
  | obj => rw [aConv_sl, Try.und112, Try.und9, rowsOf, Go.Abs.get_at]; simp only [chk, if_true, Option.bind_some, List.drop_zero, List.length_map, Nat.zero_add, Nat.le_refl, List.take_of_length_le, convB, Try.und5, mapM_brow, Option.map_some]
set_option maxRecDepth 100000 in
theorem Bytes_call (G : Nat → Option AV) (a : AV) (fs : List Fld) (h : AH) (K : AV → AH → Prop) (ha : Sees h 3 a (fs.map Fld.cells)) (hs : ∀ f ∈ fs, f.s.length ≤ 1000000) (hlen : fs.length ≤ 1000000) (hk : K (.v (.string (bs (bytesF fs [])))) h) : SCall Try.prog G 30 [a] h K := by
  refine scall_of_awp Try.tab30 Try.vs30 Try.cs30 Try.func30 rfl Try.ntmps30 (by kernel_rfl) (by show 1 ≤ _; decide) (by kernel_rfl) ?_
  intro hl
  rw [Try.results30]
  simp -implicitDefEqProofs [go_sem, Try.vs30, Try.cs30, Try.tab30]
  refine loop_rule Try.tab30 Try.vs30 Try.cs30 (fun m e h' => ∃ (k : Nat) (b : List UInt8) (x : AV), k ≤ fs.length ∧ m = fs.length - k ∧ bytesF (fs.drop k) b = bytesF fs [] ∧ b.length ≤ 2000000 * 1000000 ∧ Acc h x h' b ∧ e = [(0, a), (2, .v (.string (bs []))), (3, x), (4, .v (.int .i64 k))]) fs.length (by kernel_rfl) ⟨0, [], _, by omega, rfl, rfl, by simp, by simpa using Acc.nil (h := h) (t := []), rfl⟩ ?_
  rintro m e h' ⟨k, b, x, hk1, rfl, hb, hbl, hacc, rfl⟩
  have lx := hacc.len
  have ha' : Sees h' 3 a (fs.map Fld.cells) := by
    cases hacc with
    | nil => exact ha.app _
    | obj => exact ha.app _
  have la := ha'.len (P := Try.prog) (t := 90) Try.und90
  rw [List.length_map] at la
  by_cases hkl : k < fs.length
  · obtain ⟨f, hf⟩ : ∃ f, fs[k]? = some f := ⟨fs[k], List.getElem?_eq_getElem hkl⟩
    obtain ⟨p, p1, p2⟩ := ha'.ia (P := Try.prog) (t := 90) (k := .i64) (i := k) (r := f.cells) Try.und90 Try.siz89 (by omega) (by simp [hf])
    have hdrop : fs.drop k = f :: fs.drop (k + 1) := by
      rw [List.drop_eq_getElem_cons hkl]
      rw [List.getElem?_eq_getElem hkl] at hf
      rw [Option.some.inj hf]
    by_cases hb2 : b.length ≤ 262144
    · have hbi : ((b.length : Int) ≤ 262144) = True := by simp; omega
      simp -implicitDefEqProofs [go_sem, Try.vs30, Try.cs30, Try.tab30, la, lx, hkl, hbi, p1, p2]
      have hfs := hs f (List.mem_of_getElem? hf)
      refine One_call G f _ _ (by omega) ?_
      have hfl : f.bytes.length ≤ 1000010 := by
        have h9 := num_len (f.s.length : Int)
        have h9' := num_len f.n
        unfold Fld.bytes
        split <;> simp <;> omega
      refine hacc.append (by omega) ?_
      intro x' h'' hacc'
      refine ⟨fs.length - (k + 1), by omega, k + 1, by omega, rfl, b ++ f.bytes, ?_, by simp; omega, x', hacc', rfl, wrap64_of (by omega) (by omega)⟩
      rw [← hb, hdrop, bytesF, if_pos hb2]
    · have hbi : ((b.length : Int) ≤ 262144) = False := by simp; omega
      simp -implicitDefEqProofs [go_sem, Try.vs30, Try.cs30, Try.tab30, la, lx, hkl, hbi, hacc.conv]
      obtain ⟨t, rfl⟩ := hacc.tail
      refine retQ_tail hl rfl .v ?_
      rw [hdrop, bytesF, if_neg hb2] at hb
      rw [← hb] at hk
      exact hk
  · simp -implicitDefEqProofs [go_sem, Try.vs30, Try.cs30, Try.tab30, la, lx, hkl, hacc.conv]
    obtain ⟨t, rfl⟩ := hacc.tail
    refine retQ_tail hl rfl .v ?_
    rw [List.drop_of_length_le (by omega), bytesF] at hb
    rw [← hb] at hk
    exact hk
end Go.Proofs
