/- Facts of this program that the walks look up: which slots live on, which escape, how wide the types are. -/
import Derived.Test.YtfflfaedghfmdaaDoorProg
import Derived.KernelRfl
import Derived.Lib.ItoaNum
import Derived.Test.YtfflfaedghfmdaaDoorGenC
import Derived.Test.YtfflfaedghfmdaaDoorGenB
set_option linter.unusedVariables false
set_option linter.unusedSimpArgs false
set_option linter.all false
set_option linter.deprecated false
set_option linter.unusedVariables false
set_option linter.all false
namespace Go.Proofs.YtfflfaedghfmdaaDoor
open Go.Abs
def escT (f : Nat) : List Nat := bif Nat.blt f 65 then (bif Nat.blt f 32 then (bif Nat.blt f 16 then (bif Nat.blt f 8 then ([]) else (bif Nat.blt f 12 then (bif Nat.blt f 10 then (bif Nat.blt f 9 then ([3]) else ([29])) else ([])) else ([]))) else (bif Nat.blt f 24 then (bif Nat.blt f 20 then (bif Nat.blt f 18 then ([]) else (bif Nat.blt f 19 then ([4]) else ([11]))) else ([])) else (bif Nat.blt f 28 then (bif Nat.blt f 26 then (bif Nat.blt f 25 then ([]) else ([8])) else ([])) else ([])))) else (bif Nat.blt f 48 then ([]) else (bif Nat.blt f 56 then (bif Nat.blt f 52 then (bif Nat.blt f 50 then ([]) else (bif Nat.blt f 51 then ([]) else ([4]))) else ([])) else ([])))) else (bif Nat.blt f 97 then (bif Nat.blt f 81 then ([]) else (bif Nat.blt f 89 then (bif Nat.blt f 85 then ([]) else (bif Nat.blt f 87 then (bif Nat.blt f 86 then ([5]) else ([])) else ([]))) else (bif Nat.blt f 93 then (bif Nat.blt f 91 then ([]) else (bif Nat.blt f 92 then ([]) else ([12]))) else ([])))) else ([]))
def liveL (f : Nat) : List (Nat × List Nat) := bif Nat.blt f 65 then (bif Nat.blt f 32 then (bif Nat.blt f 16 then (bif Nat.blt f 8 then (bif Nat.blt f 4 then (bif Nat.blt f 2 then ([]) else (bif Nat.blt f 3 then ([(0, [])]) else ([(0, [0, 1, 2]), (1, [3, 4, 5]), (2, []), (3, [5]), (4, [5, 7, 8]), (5, []), (6, [])]))) else (bif Nat.blt f 6 then (bif Nat.blt f 5 then ([(0, [0]), (1, [1])]) else ([(0, [0]), (1, [1]), (2, [1, 3]), (3, [3]), (4, [3]), (5, [3, 5, 6, 4]), (6, [7, 3, 5, 6, 4]), (8, [7, 3, 5, 6, 4]), (9, [5, 6, 7, 3, 4]), (10, [6, 8, 7, 3, 4]), (11, [6, 8, 7, 3, 5, 4]), (12, [8, 7, 3, 5, 6, 4]), (13, [9, 8, 7, 3, 5, 6, 4]), (14, [9, 8, 7, 3, 5, 6, 4]), (15, [8, 7, 3, 5, 6, 9, 4]), (16, []), (17, [4, 9, 6, 5, 3, 7, 8]), (18, [4, 9, 6, 5, 3, 7, 8]), (19, [9, 6, 5, 3, 7, 4, 8]), (20, []), (21, [8, 4, 7, 3, 5, 6]), (23, [8, 4, 6, 5, 3, 7]), (24, []), (22, [4, 7, 3, 5, 6]), (7, [7, 3, 5, 6, 4]), (25, [4, 5, 6, 3])])) else (bif Nat.blt f 7 then ([(0, [0, 1, 2]), (1, [3, 4, 5]), (2, []), (3, [5, 4, 3]), (4, []), (5, [3, 4, 5]), (6, [7, 8, 9]), (7, [7, 8, 9, 10, 11, 12]), (8, [7, 13, 8, 9, 10, 11, 14, 12]), (9, []), (10, [12, 14, 11, 10, 9, 8, 13, 7]), (11, [7, 13, 8, 9, 10, 11, 14, 12, 15]), (13, [7, 13, 8, 9, 10, 11, 14, 12, 15]), (14, [16, 17, 7, 13, 8, 9, 10, 11, 14, 12, 15]), (15, []), (12, [15, 12, 14, 11, 10, 9, 8, 13, 7]), (16, [8, 9, 11, 12, 7, 10]), (17, [18, 11, 12, 7, 10])]) else ([(0, [0]), (1, [0]), (2, [0, 4, 3]), (3, [3, 4, 5, 0]), (5, [3, 4, 5, 0]), (6, [3, 4, 5, 0]), (7, [3, 4, 5, 0]), (8, [4, 5, 0, 3]), (4, [5, 0, 4, 3]), (9, [4, 3, 0]), (10, [0]), (11, [0, 3])])))) else (bif Nat.blt f 12 then (bif Nat.blt f 10 then (bif Nat.blt f 9 then ([(0, [0]), (1, [1]), (2, []), (3, [1]), (4, [1, 3]), (5, [3]), (6, [1, 3]), (7, [4, 3]), (8, []), (9, [3])]) else ([(0, [0]), (1, [1]), (2, []), (3, [1]), (4, [3, 1]), (5, [3, 13, 11, 1, 12]), (6, [3, 13, 11, 1, 12]), (7, [3, 5, 13, 11, 1, 12]), (8, [13, 3, 11, 1, 12]), (9, [3, 1]), (10, [3, 1, 6]), (11, [1, 6]), (12, [6]), (13, [6])])) else (bif Nat.blt f 11 then ([(0, [0, 1]), (1, [2, 3]), (2, []), (3, [3, 2]), (4, [2, 3, 5]), (6, [2, 3, 5]), (7, []), (5, [5, 3, 2]), (8, [2, 3])]) else ([(0, [0]), (1, [1])]))) else (bif Nat.blt f 14 then (bif Nat.blt f 13 then ([(0, [0]), (1, [1]), (2, []), (3, [1])]) else ([(0, []), (1, []), (2, [1]), (3, [2, 3, 4, 1]), (4, [1, 5, 6]), (5, [7, 8, 1, 5, 6]), (6, [1, 5, 6, 9])])) else (bif Nat.blt f 15 then ([(0, [0]), (1, [1]), (2, []), (3, [1])]) else ([(0, [0, 1]), (1, [0, 1, 4])]))))) else (bif Nat.blt f 24 then (bif Nat.blt f 20 then (bif Nat.blt f 18 then (bif Nat.blt f 17 then ([(0, [0]), (1, [0]), (2, [0, 3]), (3, [8, 7, 9, 3]), (4, [8, 7, 9, 3]), (5, [5, 8, 7, 9, 3]), (6, [8, 7, 9, 6, 3]), (7, []), (8, [3, 6, 9, 7, 8]), (9, [9, 3, 7, 8]), (10, [3])]) else ([(0, [0]), (1, [0])])) else (bif Nat.blt f 19 then ([(0, [0]), (1, [0]), (2, []), (3, [0]), (4, [9, 8, 0, 10]), (5, [9, 8, 0, 10]), (6, [3, 4, 9, 8, 0, 10]), (8, [10, 0, 8, 9, 4, 3]), (10, [3, 4, 9, 8, 0, 10]), (11, []), (9, []), (7, []), (12, [10, 0, 8, 9]), (13, [])]) else ([(0, [0, 1, 2]), (1, [1, 2, 3]), (2, [3, 7]), (3, [7])]))) else (bif Nat.blt f 22 then (bif Nat.blt f 21 then ([(0, [0, 1, 2]), (1, [3, 1, 2]), (2, [3, 1, 2])]) else ([(0, [0, 1]), (1, [1, 2]), (2, [6, 1, 2, 5]), (3, []), (4, [5, 2, 1]), (5, []), (6, [1, 2, 5]), (7, [1, 2, 5]), (8, [1, 2, 5, 7]), (9, [7]), (10, [5, 2, 1]), (11, [2, 1]), (12, [1, 8]), (13, [8]), (14, [1]), (15, []), (16, [])])) else (bif Nat.blt f 23 then ([(0, [0])]) else ([(0, [0]), (1, [0]), (2, [3]), (4, [3]), (5, []), (3, []), (6, [])])))) else (bif Nat.blt f 28 then (bif Nat.blt f 26 then (bif Nat.blt f 25 then ([(0, [0, 1]), (1, [10, 0, 1, 9]), (2, [10, 0, 1, 9]), (3, [10, 0, 1, 9]), (4, [1, 0]), (5, [19, 0, 17, 18]), (6, [19, 0, 17, 18]), (7, [5, 19, 0, 17, 18]), (8, [19, 0, 17, 18]), (9, [0])]) else ([(0, [0, 1]), (1, [0, 1]), (2, [0, 1, 12]), (4, [12, 1, 0]), (5, [0]), (3, []), (6, [0, 1]), (7, [5, 0, 1]), (8, [5, 0, 1]), (9, [5, 0, 1]), (10, [5, 0, 1]), (11, [5, 0, 1]), (12, [5, 41, 39, 0, 1, 40]), (13, [5, 41, 39, 0, 1, 40]), (14, [5, 7, 41, 39, 0, 1, 40]), (15, [5, 7, 41, 39, 0, 1, 40]), (16, [5, 7, 41, 39, 0, 1, 40]), (17, [41, 5, 39, 0, 1, 40]), (18, [5, 0, 1]), (19, [5, 0, 8, 1]), (20, [0, 8, 1]), (21, [0, 8, 1]), (22, [65, 8, 1, 63, 64]), (23, [65, 8, 1, 63, 64]), (24, [10, 65, 8, 1, 63, 64]), (25, [10, 65, 8, 1, 63, 64]), (26, [65, 8, 1, 63, 64]), (27, [8])])) else (bif Nat.blt f 27 then ([(0, [1, 0]), (1, [1, 0]), (2, [16, 0, 14, 15]), (3, [16, 0, 14, 15]), (4, [5, 16, 0, 14, 15]), (5, [6, 5, 16, 0, 14, 15]), (6, [16, 0, 14, 15]), (7, [0])]) else ([(0, [0]), (1, [0])]))) else (bif Nat.blt f 30 then (bif Nat.blt f 29 then ([(0, [0, 1]), (1, [0, 1]), (2, []), (3, [1, 0]), (4, [0, 1, 5]), (6, [0, 1, 5]), (7, [6, 7, 0, 1, 5]), (8, []), (5, [5, 1, 0]), (9, [])]) else ([(0, [0, 1]), (1, [1, 2]), (2, [1, 2, 5]), (3, [5]), (4, [2, 1]), (5, [17, 16, 1, 18]), (6, [17, 16, 1, 18]), (7, [7, 17, 16, 1, 18]), (8, [17, 16, 1, 18, 8]), (9, [8]), (10, [18, 1, 16, 17]), (11, [])])) else (bif Nat.blt f 31 then ([(0, [0]), (1, [1]), (2, [3, 1]), (4, [3, 1]), (7, [3, 1]), (9, [1, 3]), (11, [1, 3]), (13, [3, 1]), (15, [3, 1]), (17, [3, 1]), (18, [1]), (16, [1]), (14, [1]), (12, [1, 3]), (10, [1, 3]), (8, [1]), (5, [1]), (6, [4]), (3, [1]), (19, [1, 3])]) else ([(0, [0]), (1, [0, 2])])))))) else (bif Nat.blt f 48 then (bif Nat.blt f 40 then (bif Nat.blt f 36 then (bif Nat.blt f 34 then (bif Nat.blt f 33 then ([(0, [0]), (1, [0, 2])]) else ([(0, [0]), (1, [1])])) else (bif Nat.blt f 35 then ([(0, [0]), (1, [1]), (2, [3, 1]), (3, [3, 10, 1]), (5, [10, 3, 1]), (8, [3, 10, 1]), (10, [10, 1, 3]), (12, [10, 1, 3]), (13, [1, 3]), (11, [1, 3]), (9, [1]), (6, [1]), (7, [4]), (4, [1]), (14, [3, 1]), (15, [1]), (16, [3, 1]), (17, [1]), (18, [3, 1]), (19, [1]), (20, [1, 3])]) else ([(0, [0]), (1, [0])]))) else (bif Nat.blt f 38 then (bif Nat.blt f 37 then ([(0, [0]), (1, [0]), (2, [6, 0]), (3, [7, 6, 0]), (4, [4, 6, 0, 3]), (5, [3]), (6, [0])]) else ([(0, [0]), (1, [0]), (2, [3]), (3, [3]), (4, [3]), (5, [3]), (6, [3]), (7, [3]), (8, [3]), (9, [3]), (10, [3]), (11, [3]), (12, [3]), (13, [3]), (14, [3]), (15, [3]), (16, [3]), (17, [3]), (18, [3]), (19, [3]), (20, [3]), (21, [3]), (22, [3]), (23, [3]), (24, [3]), (25, [3]), (26, [3]), (27, []), (28, [])])) else (bif Nat.blt f 39 then ([(0, [0, 1]), (1, [0, 1])]) else ([(0, [0, 1]), (1, [2, 1])])))) else (bif Nat.blt f 44 then (bif Nat.blt f 42 then (bif Nat.blt f 41 then ([(0, [1, 0, 2]), (1, [9, 8, 2, 0, 10]), (2, [9, 8, 2, 0, 10]), (3, [9, 8, 2, 0, 10, 7]), (4, [7, 10, 0, 2, 8, 9]), (5, [7, 10, 0, 2, 8, 9]), (6, [7, 10, 0, 2, 8, 9]), (7, [7, 10, 0, 2, 8, 9]), (8, [7, 10, 0, 2, 8, 9]), (9, [7, 10, 0, 2, 8, 9]), (10, [10, 0, 2, 8, 9])]) else ([(0, [0]), (1, [0, 2]), (2, [4, 2]), (3, [4, 2]), (5, [4, 2]), (7, [4, 2]), (8, [4, 2]), (10, [4, 2]), (12, [4, 2]), (14, [4, 2]), (15, [2]), (13, [2]), (11, [2]), (9, [2]), (6, [2]), (4, [2]), (16, [2])])) else (bif Nat.blt f 43 then ([(0, [0, 1]), (1, [3, 2]), (2, []), (3, [2]), (4, [68, 2]), (6, [68, 2]), (7, [2]), (5, [2]), (8, [])]) else ([(0, [0, 1]), (1, [0, 1]), (2, [0, 1]), (3, [1])]))) else (bif Nat.blt f 46 then (bif Nat.blt f 45 then ([(0, [0, 1]), (1, [0, 1]), (2, [0, 1]), (3, [])]) else ([(0, [0, 1]), (1, [0, 1]), (2, [0, 1]), (3, [0, 1]), (4, [0, 1])])) else (bif Nat.blt f 47 then ([(0, [0]), (1, [0]), (2, [3]), (4, [3]), (6, [3]), (8, [3]), (10, [3]), (12, [3]), (14, [3]), (15, []), (13, []), (11, []), (9, []), (7, []), (5, []), (3, []), (16, [])]) else ([(0, [0, 1]), (1, [2, 3]), (2, []), (3, [3, 2]), (4, [2, 3, 5]), (6, [2, 3, 5]), (7, []), (5, [5, 3, 2]), (8, [])]))))) else (bif Nat.blt f 56 then (bif Nat.blt f 52 then (bif Nat.blt f 50 then (bif Nat.blt f 49 then ([(0, [0, 1]), (1, [2, 1]), (2, [2, 5, 1]), (4, [1, 5, 2]), (6, [2, 5, 1]), (8, [1]), (9, []), (7, []), (5, []), (3, []), (10, [])]) else ([(0, [0]), (1, [0]), (2, [3]), (4, [3]), (6, [3]), (8, [3]), (9, [3]), (10, [3]), (11, [3]), (12, [3]), (13, [3]), (15, [3]), (17, [3]), (18, [3]), (20, [3]), (21, [3]), (22, [3]), (24, [3]), (25, []), (23, []), (19, []), (16, []), (14, []), (7, []), (5, []), (3, []), (26, [])])) else (bif Nat.blt f 51 then ([(0, [0]), (1, [0])]) else ([(0, [0]), (1, [0]), (2, []), (3, [0]), (4, []), (5, [0]), (6, [4, 0]), (7, [4, 0]), (8, [15, 4, 0, 14]), (9, [15, 4, 0, 14]), (10, [5, 15, 4, 0, 14]), (11, [5, 15, 4, 0, 14]), (12, [5, 15, 4, 0, 14]), (13, [15, 4, 0, 14]), (14, [4]), (15, [4])]))) else (bif Nat.blt f 54 then (bif Nat.blt f 53 then ([(0, [0, 1]), (1, [1, 2]), (2, [2]), (3, [2])]) else ([(0, [0]), (1, [0]), (2, [3]), (4, [3]), (6, [3]), (8, [3]), (10, [3]), (12, [3]), (14, [3]), (16, [3]), (17, []), (15, []), (13, []), (11, []), (9, []), (7, []), (5, []), (3, []), (18, [])])) else (bif Nat.blt f 55 then ([(0, [0]), (1, [0]), (2, [3]), (4, [3]), (6, [3]), (8, [3]), (10, [3]), (12, [3]), (14, [3]), (16, [3]), (18, [3]), (20, [3]), (22, [3]), (24, [3]), (26, [3]), (27, []), (25, []), (23, []), (21, []), (19, []), (17, []), (15, []), (13, []), (11, []), (9, []), (7, []), (5, []), (3, []), (28, [])]) else ([(0, [0, 1]), (1, [2, 1]), (2, [2, 1, 5]), (3, [5]), (4, [1, 2]), (5, [2, 1, 6]), (7, [2, 1, 6]), (8, [2, 1, 6, 7]), (9, [7]), (6, [6, 1, 2]), (10, [])])))) else (bif Nat.blt f 60 then (bif Nat.blt f 58 then (bif Nat.blt f 57 then ([(0, [0]), (1, [0]), (2, [3]), (4, [3]), (6, [3]), (8, [3]), (9, [3]), (10, [3]), (11, [3]), (12, [3]), (13, [3]), (15, [3]), (17, [3]), (18, [3]), (20, [3]), (21, [3]), (22, [3]), (24, [3]), (25, []), (23, []), (19, []), (16, []), (14, []), (7, []), (5, []), (3, []), (26, [])]) else ([(0, [0]), (1, [0]), (2, [3, 0]), (3, [4, 3, 0]), (4, [4, 3, 0]), (5, [3, 4, 0]), (6, [0, 4]), (7, [4]), (8, [4])])) else (bif Nat.blt f 59 then ([(0, [0]), (1, [0]), (2, []), (3, [0]), (4, []), (5, [0]), (6, [0, 4]), (7, [4, 5, 0]), (9, [4, 5, 0]), (10, [4, 5, 0]), (11, [4, 5, 0]), (8, [5, 0, 4]), (12, [4])]) else ([(0, [0, 1]), (1, [1, 2]), (2, [2]), (3, [2])]))) else (bif Nat.blt f 62 then (bif Nat.blt f 61 then ([(0, [0]), (1, [0]), (2, [3]), (4, [3]), (6, [3]), (8, [3]), (10, [3]), (12, [3]), (14, [3]), (15, []), (13, []), (11, []), (9, []), (7, []), (5, []), (3, []), (16, [])]) else ([(0, [0]), (1, [0]), (2, [3]), (4, [3]), (6, [3]), (8, [3]), (10, [3]), (12, [3]), (14, [3]), (16, [3]), (18, [3]), (20, [3]), (22, [3]), (24, [3]), (26, [3]), (27, []), (25, []), (23, []), (21, []), (19, []), (17, []), (15, []), (13, []), (11, []), (9, []), (7, []), (5, []), (3, []), (28, [])])) else (bif Nat.blt f 63 then ([(0, [0, 1]), (1, [0, 1]), (2, [7, 1, 0, 8]), (3, [7, 1, 0, 8]), (4, [7, 1, 0, 8, 5]), (5, [5]), (6, [8, 0, 1, 7]), (7, [])]) else (bif Nat.blt f 64 then ([(0, [1, 0]), (1, [3, 0]), (2, [0, 3]), (3, [0, 3])]) else ([(0, [0]), (1, [1])])))))))) else (bif Nat.blt f 97 then (bif Nat.blt f 81 then (bif Nat.blt f 73 then (bif Nat.blt f 69 then (bif Nat.blt f 67 then (bif Nat.blt f 66 then ([(0, [0]), (2, [0]), (1, [0])]) else ([(0, [1, 0]), (1, [0, 4]), (2, [0, 4])])) else ([(0, [1, 0]), (1, [0, 3])])) else (bif Nat.blt f 71 then ([(0, [1, 0]), (1, [0, 3])]) else (bif Nat.blt f 72 then ([(0, [1, 0]), (1, [3, 0]), (2, [3, 0]), (3, [3, 0]), (4, [3, 0]), (5, [3, 0]), (6, [0])]) else ([(0, [1, 0]), (1, [3, 0]), (2, [3, 0]), (3, [0])])))) else (bif Nat.blt f 77 then (bif Nat.blt f 75 then ([(0, [1, 0]), (1, [0, 3])]) else (bif Nat.blt f 76 then ([(0, [0]), (1, [0]), (3, [0]), (5, [0]), (6, []), (4, []), (2, []), (7, [])]) else ([(0, [0]), (1, [0]), (2, [0, 3]), (4, [0, 3]), (5, []), (3, [3, 0]), (6, [0])]))) else (bif Nat.blt f 79 then (bif Nat.blt f 78 then ([(0, [0, 1]), (1, [0, 1])]) else ([(0, [0]), (1, [0]), (2, [5, 0, 6]), (3, [5, 0, 6]), (4, [3, 5, 0, 6]), (5, []), (6, [6, 0, 5]), (7, [])])) else (bif Nat.blt f 80 then ([(0, [0, 1]), (1, [2, 1]), (2, []), (3, [1, 2]), (4, []), (5, [2, 1]), (6, []), (7, [1]), (8, []), (9, [])]) else ([(0, [0]), (1, [0]), (2, [0]), (3, [0])]))))) else (bif Nat.blt f 89 then (bif Nat.blt f 85 then (bif Nat.blt f 83 then (bif Nat.blt f 82 then ([(0, [0]), (1, [0]), (2, [0, 3]), (4, [0, 3]), (5, []), (3, [3, 0]), (6, [])]) else ([(0, [1, 0]), (1, [0, 3]), (2, [3, 0]), (3, [3, 0]), (4, [21, 0, 19, 20]), (5, [21, 0, 19, 20]), (6, [5, 21, 0, 19, 20]), (7, [21, 0, 19, 20])])) else ([])) else (bif Nat.blt f 87 then (bif Nat.blt f 86 then ([(0, [1, 0]), (1, [1, 0]), (2, [0]), (3, [0]), (4, [0]), (5, [0, 5]), (6, [6, 0, 5]), (7, [6, 0, 5]), (8, [6, 0, 5]), (9, [6, 0, 7, 5]), (10, [0, 7, 5]), (11, [7, 5]), (12, [7, 5]), (13, [7, 5]), (14, [1, 0]), (15, [9])]) else ([(0, [0]), (1, [0]), (2, [0, 3]), (3, [0, 3]), (4, [0, 3]), (5, [0, 3]), (6, [0, 3]), (7, [0, 3]), (9, [3, 0]), (10, [3, 0]), (11, [3, 0]), (12, [3, 0]), (13, [3, 0]), (14, [3, 0]), (15, [3, 0]), (16, []), (8, []), (17, [0]), (18, []), (19, [])])) else (bif Nat.blt f 88 then ([(0, [0]), (1, [0])]) else ([(0, [0]), (1, [0]), (2, []), (3, [0]), (4, [0, 3]), (6, [0, 3]), (7, []), (5, [3, 0]), (8, [])])))) else (bif Nat.blt f 93 then (bif Nat.blt f 91 then (bif Nat.blt f 90 then ([(0, [0]), (1, [0]), (2, [0]), (3, [0])]) else ([(0, [0]), (1, [0]), (2, [0, 3])])) else (bif Nat.blt f 92 then ([(0, [0, 1]), (1, [1, 4, 0]), (2, [1, 4, 0]), (3, [1, 5, 4, 0]), (4, [5, 4, 0, 1]), (5, [7, 6, 4, 0, 1]), (6, [6, 9, 8, 4, 0, 1]), (7, [9, 8, 11, 10, 4, 0, 1]), (8, [8, 11, 10, 4, 0, 1]), (9, [11, 10, 4, 0, 1]), (10, [10, 4, 0, 1]), (11, [4, 0, 1]), (12, [1, 4, 0]), (13, [12, 4, 0]), (14, [12, 4, 0]), (15, [12, 13, 4, 0]), (16, [13, 4, 12, 0]), (17, [15, 14, 4, 12, 0]), (18, [14, 4, 12, 0]), (19, [4, 12, 0]), (20, [12, 4, 0]), (21, [12, 4, 0]), (22, [12, 16, 4, 0]), (23, [16, 4, 0, 12]), (24, [4, 0, 12]), (25, [4, 0, 12]), (26, [0, 12])]) else ([(0, [1, 2, 3, 4, 0]), (1, [1, 2, 3, 4, 10, 0, 11]), (2, [1, 2, 3, 4, 10, 0, 11]), (3, [1, 2, 3, 4, 10, 0, 11]), (4, [1, 2, 12, 3, 4, 10, 0, 11]), (5, [1, 2, 12, 13, 3, 4, 10, 0, 11]), (6, [1, 2, 12, 13, 3, 4, 10, 0, 11]), (7, [2, 1, 12, 13, 3, 4, 10, 0, 11]), (17, [2, 12, 1, 13, 3, 4, 10, 0, 11]), (18, [13, 1, 12, 17, 3, 4, 10, 0, 11]), (19, [13, 1, 12, 17, 3, 4, 10, 0, 11]), (20, [1, 12, 17, 13, 3, 4, 10, 0, 11]), (21, [1, 18, 12, 17, 13, 3, 4, 10, 0, 11]), (22, [18, 12, 17, 13, 3, 4, 10, 0, 11]), (23, [13, 1, 3, 4, 10, 0, 12, 11]), (24, [1, 3, 13, 4, 10, 0, 12, 11]), (8, [2, 1, 12, 13, 3, 4, 10, 0, 11]), (9, [2, 14, 1, 12, 13, 3, 4, 10, 0, 11]), (10, [2, 14, 1, 12, 13, 3, 4, 10, 0, 11, 15]), (11, [13, 1, 14, 12, 16, 3, 4, 10, 0, 11, 15]), (12, [13, 1, 14, 12, 16, 3, 4, 10, 0, 11, 15]), (13, [1, 14, 12, 16, 13, 3, 4, 10, 0, 11, 15]), (14, [1, 14, 12, 16, 13, 3, 4, 10, 0, 11, 15]), (15, [13, 1, 3, 4, 10, 0, 12, 11]), (16, [1, 3, 13, 4, 10, 0, 12, 11]), (25, [3, 13, 4, 10, 0, 12, 11]), (26, [13, 4, 10, 0, 12, 11]), (27, [4, 10, 0, 13, 12, 11]), (28, [4, 10, 0, 13, 12, 11]), (29, [0, 13, 12, 11]), (30, [13, 12, 10])]))) else (bif Nat.blt f 95 then (bif Nat.blt f 94 then ([(0, [0]), (1, [0])]) else ([(0, [1, 0]), (1, [1, 0]), (2, [1, 0]), (3, [1])])) else ([(0, [0]), (1, [0])]))))) else (bif Nat.blt f 113 then (bif Nat.blt f 105 then (bif Nat.blt f 101 then (bif Nat.blt f 99 then (bif Nat.blt f 98 then ([(0, [0]), (1, [2, 0]), (2, [0]), (3, [0]), (4, [0, 2]), (5, [0, 2]), (6, [2, 0]), (7, [0, 2]), (8, [0, 2]), (9, [2, 0]), (10, [2, 0])]) else ([(0, [0]), (1, [0]), (2, []), (3, [])])) else (bif Nat.blt f 100 then ([(0, [0]), (1, [0])]) else ([(0, [0]), (1, [0]), (2, [0])]))) else (bif Nat.blt f 103 then (bif Nat.blt f 102 then ([(0, [0]), (1, [0])]) else ([(0, [1, 0]), (1, [1, 0]), (2, [0, 1, 5]), (4, [0, 1, 5]), (5, []), (3, [5, 1, 0]), (6, [])])) else (bif Nat.blt f 104 then ([(0, []), (1, [])]) else ([(0, [0]), (1, [0]), (2, []), (3, [0])])))) else (bif Nat.blt f 109 then (bif Nat.blt f 107 then (bif Nat.blt f 106 then ([(0, [0]), (1, [0]), (2, []), (3, [0])]) else ([(0, [0]), (1, [0])])) else ([])) else ([]))) else (bif Nat.blt f 121 then ([]) else (bif Nat.blt f 125 then ([]) else (bif Nat.blt f 127 then ([]) else (bif Nat.blt f 128 then ([]) else (bif Nat.blt f 129 then ([]) else ([(0, []), (1, []), (2, [])]))))))))

def okL : List Nat := [3, 4, 5, 6, 7, 8, 9, 10, 11, 12, 13, 14, 15, 16, 17, 18, 19, 20, 21, 22, 23, 24, 25, 26, 27, 28, 29, 30, 31, 32, 33, 34, 35, 36, 37, 38, 39, 40, 41, 42, 43, 44, 45, 46, 47, 48, 49, 50, 51, 52, 53, 54, 55, 56, 57, 58, 59, 60, 61, 62, 63, 64, 65, 66, 67, 68, 69, 70, 71, 72, 73, 74, 75, 76, 77, 78, 79, 80, 81, 82, 85, 86, 87, 88, 89, 90, 91, 92, 93, 94, 95, 96, 97, 98, 99, 100, 101, 102, 103, 104, 105, 106]


def findL : Nat → List (Nat × List Nat) → Option (List Nat)
  | _, [] => none
  | r, (s, l) :: rest => bif Nat.beq r s then some l else findL r rest
/-- what is known of the library, for the closed example -/
def ext0 (f : Nat) : Option AFun := bif Nat.beq f 65 then some (ccFn 64 62) else bif Nat.beq f 27 then some (bsFn 64 62 5) else bif Nat.beq f 25 then some joinFn else none
/-- .. and for all -/
def ext9 (f : Nat) : Option AFun := bif Nat.beq f 77 then some (fmtFn Lib.itoa) else ext0 f
noncomputable def C : ACtx := { P := Tryd.prog, esc := escT, own := fun f => [].contains f, live := fun f r => findL r (liveL f), ext := fun f => bif Nat.beq f 13 then some (closedFn true) else ext9 f, typed := fun t => t == 64 || t == 62 }
noncomputable def C0 : ACtx := { P := Tryd.prog, esc := escT, own := fun f => [].contains f, live := fun f r => findL r (liveL f), ext := ext0, typed := fun t => t == 64 || t == 62 }
@[go_sem] theorem C_typed {t : Nat} : C.typed t = (t == 64 || t == 62) := by rfl
@[go_sem] theorem C_P : C.P = Tryd.prog := by rfl
@[go_sem] theorem own_3 : C.own 3 = false := by rfl
@[go_sem] theorem own_4 : C.own 4 = false := by rfl
@[go_sem] theorem own_5 : C.own 5 = false := by rfl
@[go_sem] theorem own_6 : C.own 6 = false := by rfl
@[go_sem] theorem own_7 : C.own 7 = false := by rfl
@[go_sem] theorem own_8 : C.own 8 = false := by rfl
@[go_sem] theorem own_9 : C.own 9 = false := by rfl
@[go_sem] theorem own_10 : C.own 10 = false := by rfl
@[go_sem] theorem own_11 : C.own 11 = false := by rfl
@[go_sem] theorem own_12 : C.own 12 = false := by rfl
@[go_sem] theorem own_13 : C.own 13 = false := by rfl
@[go_sem] theorem own_14 : C.own 14 = false := by rfl
@[go_sem] theorem own_15 : C.own 15 = false := by rfl
@[go_sem] theorem own_16 : C.own 16 = false := by rfl
@[go_sem] theorem own_17 : C.own 17 = false := by rfl
@[go_sem] theorem own_18 : C.own 18 = false := by rfl
@[go_sem] theorem own_19 : C.own 19 = false := by rfl
@[go_sem] theorem own_20 : C.own 20 = false := by rfl
@[go_sem] theorem own_21 : C.own 21 = false := by rfl
@[go_sem] theorem own_22 : C.own 22 = false := by rfl
@[go_sem] theorem own_23 : C.own 23 = false := by rfl
@[go_sem] theorem own_24 : C.own 24 = false := by rfl
@[go_sem] theorem own_25 : C.own 25 = false := by rfl
@[go_sem] theorem own_26 : C.own 26 = false := by rfl
@[go_sem] theorem own_27 : C.own 27 = false := by rfl
@[go_sem] theorem own_28 : C.own 28 = false := by rfl
@[go_sem] theorem own_29 : C.own 29 = false := by rfl
@[go_sem] theorem own_30 : C.own 30 = false := by rfl
@[go_sem] theorem own_31 : C.own 31 = false := by rfl
@[go_sem] theorem own_32 : C.own 32 = false := by rfl
@[go_sem] theorem own_33 : C.own 33 = false := by rfl
@[go_sem] theorem own_34 : C.own 34 = false := by rfl
@[go_sem] theorem own_35 : C.own 35 = false := by rfl
@[go_sem] theorem own_36 : C.own 36 = false := by rfl
@[go_sem] theorem own_37 : C.own 37 = false := by rfl
@[go_sem] theorem own_38 : C.own 38 = false := by rfl
@[go_sem] theorem own_39 : C.own 39 = false := by rfl
@[go_sem] theorem own_40 : C.own 40 = false := by rfl
@[go_sem] theorem own_41 : C.own 41 = false := by rfl
@[go_sem] theorem own_42 : C.own 42 = false := by rfl
@[go_sem] theorem own_43 : C.own 43 = false := by rfl
@[go_sem] theorem own_44 : C.own 44 = false := by rfl
@[go_sem] theorem own_45 : C.own 45 = false := by rfl
@[go_sem] theorem own_46 : C.own 46 = false := by rfl
@[go_sem] theorem own_47 : C.own 47 = false := by rfl
@[go_sem] theorem own_48 : C.own 48 = false := by rfl
@[go_sem] theorem own_49 : C.own 49 = false := by rfl
@[go_sem] theorem own_50 : C.own 50 = false := by rfl
@[go_sem] theorem own_51 : C.own 51 = false := by rfl
@[go_sem] theorem own_52 : C.own 52 = false := by rfl
@[go_sem] theorem own_53 : C.own 53 = false := by rfl
@[go_sem] theorem own_54 : C.own 54 = false := by rfl
@[go_sem] theorem own_55 : C.own 55 = false := by rfl
@[go_sem] theorem own_56 : C.own 56 = false := by rfl
@[go_sem] theorem own_57 : C.own 57 = false := by rfl
@[go_sem] theorem own_58 : C.own 58 = false := by rfl
@[go_sem] theorem own_59 : C.own 59 = false := by rfl
@[go_sem] theorem own_60 : C.own 60 = false := by rfl
@[go_sem] theorem own_61 : C.own 61 = false := by rfl
@[go_sem] theorem own_62 : C.own 62 = false := by rfl
@[go_sem] theorem own_63 : C.own 63 = false := by rfl
@[go_sem] theorem own_64 : C.own 64 = false := by rfl
@[go_sem] theorem own_65 : C.own 65 = false := by rfl
@[go_sem] theorem own_66 : C.own 66 = false := by rfl
@[go_sem] theorem own_67 : C.own 67 = false := by rfl
@[go_sem] theorem own_68 : C.own 68 = false := by rfl
@[go_sem] theorem own_69 : C.own 69 = false := by rfl
@[go_sem] theorem own_70 : C.own 70 = false := by rfl
@[go_sem] theorem own_71 : C.own 71 = false := by rfl
@[go_sem] theorem own_72 : C.own 72 = false := by rfl
@[go_sem] theorem own_73 : C.own 73 = false := by rfl
@[go_sem] theorem own_74 : C.own 74 = false := by rfl
@[go_sem] theorem own_75 : C.own 75 = false := by rfl
@[go_sem] theorem own_76 : C.own 76 = false := by rfl
@[go_sem] theorem own_77 : C.own 77 = false := by rfl
@[go_sem] theorem own_78 : C.own 78 = false := by rfl
@[go_sem] theorem own_79 : C.own 79 = false := by rfl
@[go_sem] theorem own_80 : C.own 80 = false := by rfl
@[go_sem] theorem own_81 : C.own 81 = false := by rfl
@[go_sem] theorem own_82 : C.own 82 = false := by rfl
@[go_sem] theorem own_85 : C.own 85 = false := by rfl
@[go_sem] theorem own_86 : C.own 86 = false := by rfl
@[go_sem] theorem own_87 : C.own 87 = false := by rfl
@[go_sem] theorem own_88 : C.own 88 = false := by rfl
@[go_sem] theorem own_89 : C.own 89 = false := by rfl
@[go_sem] theorem own_90 : C.own 90 = false := by rfl
@[go_sem] theorem own_91 : C.own 91 = false := by rfl
@[go_sem] theorem own_92 : C.own 92 = false := by rfl
@[go_sem] theorem own_93 : C.own 93 = false := by rfl
@[go_sem] theorem own_94 : C.own 94 = false := by rfl
@[go_sem] theorem own_95 : C.own 95 = false := by rfl
@[go_sem] theorem own_96 : C.own 96 = false := by rfl
@[go_sem] theorem own_97 : C.own 97 = false := by rfl
@[go_sem] theorem own_98 : C.own 98 = false := by rfl
@[go_sem] theorem own_99 : C.own 99 = false := by rfl
@[go_sem] theorem own_100 : C.own 100 = false := by rfl
@[go_sem] theorem own_101 : C.own 101 = false := by rfl
@[go_sem] theorem own_102 : C.own 102 = false := by rfl
@[go_sem] theorem own_103 : C.own 103 = false := by rfl
@[go_sem] theorem own_104 : C.own 104 = false := by rfl
@[go_sem] theorem own_105 : C.own 105 = false := by rfl
@[go_sem] theorem own_106 : C.own 106 = false := by rfl
theorem allOk : okL.all (fnOk Tryd.prog) = true := by kernel_rfl
theorem okOf : ∀ f, okL.contains f = true → fnOk Tryd.prog f = true := fun f h => List.all_eq_true.1 allOk f (by simpa using h)
theorem ok (f : FuncId) (h : okL.contains f = true) : fnOk C.P f = true := okOf f h
@[go_sem] theorem esc_3 : C.esc 3 = [] := by kernel_rfl
@[go_sem] theorem live_3_0 : C.live 3 0 = some [0, 1, 2] := by kernel_rfl
@[go_sem] theorem live_3_1 : C.live 3 1 = some [3, 4, 5] := by kernel_rfl
@[go_sem] theorem live_3_2 : C.live 3 2 = some [] := by kernel_rfl
@[go_sem] theorem live_3_3 : C.live 3 3 = some [5] := by kernel_rfl
@[go_sem] theorem live_3_4 : C.live 3 4 = some [5, 7, 8] := by kernel_rfl
@[go_sem] theorem live_3_5 : C.live 3 5 = some [] := by kernel_rfl
@[go_sem] theorem live_3_6 : C.live 3 6 = some [] := by kernel_rfl
@[go_sem] theorem esc_4 : C.esc 4 = [] := by kernel_rfl
@[go_sem] theorem live_4_0 : C.live 4 0 = some [0] := by kernel_rfl
@[go_sem] theorem live_4_1 : C.live 4 1 = some [1] := by kernel_rfl
@[go_sem] theorem esc_5 : C.esc 5 = [] := by kernel_rfl
@[go_sem] theorem live_5_0 : C.live 5 0 = some [0] := by kernel_rfl
@[go_sem] theorem live_5_1 : C.live 5 1 = some [1] := by kernel_rfl
@[go_sem] theorem live_5_2 : C.live 5 2 = some [1, 3] := by kernel_rfl
@[go_sem] theorem live_5_3 : C.live 5 3 = some [3] := by kernel_rfl
@[go_sem] theorem live_5_4 : C.live 5 4 = some [3] := by kernel_rfl
@[go_sem] theorem live_5_5 : C.live 5 5 = some [3, 5, 6, 4] := by kernel_rfl
@[go_sem] theorem live_5_6 : C.live 5 6 = some [7, 3, 5, 6, 4] := by kernel_rfl
@[go_sem] theorem live_5_8 : C.live 5 8 = some [7, 3, 5, 6, 4] := by kernel_rfl
@[go_sem] theorem live_5_9 : C.live 5 9 = some [5, 6, 7, 3, 4] := by kernel_rfl
@[go_sem] theorem live_5_10 : C.live 5 10 = some [6, 8, 7, 3, 4] := by kernel_rfl
@[go_sem] theorem live_5_11 : C.live 5 11 = some [6, 8, 7, 3, 5, 4] := by kernel_rfl
@[go_sem] theorem live_5_12 : C.live 5 12 = some [8, 7, 3, 5, 6, 4] := by kernel_rfl
@[go_sem] theorem live_5_13 : C.live 5 13 = some [9, 8, 7, 3, 5, 6, 4] := by kernel_rfl
@[go_sem] theorem live_5_14 : C.live 5 14 = some [9, 8, 7, 3, 5, 6, 4] := by kernel_rfl
@[go_sem] theorem live_5_15 : C.live 5 15 = some [8, 7, 3, 5, 6, 9, 4] := by kernel_rfl
@[go_sem] theorem live_5_16 : C.live 5 16 = some [] := by kernel_rfl
@[go_sem] theorem live_5_17 : C.live 5 17 = some [4, 9, 6, 5, 3, 7, 8] := by kernel_rfl
@[go_sem] theorem live_5_18 : C.live 5 18 = some [4, 9, 6, 5, 3, 7, 8] := by kernel_rfl
@[go_sem] theorem live_5_19 : C.live 5 19 = some [9, 6, 5, 3, 7, 4, 8] := by kernel_rfl
@[go_sem] theorem live_5_20 : C.live 5 20 = some [] := by kernel_rfl
@[go_sem] theorem live_5_21 : C.live 5 21 = some [8, 4, 7, 3, 5, 6] := by kernel_rfl
@[go_sem] theorem live_5_23 : C.live 5 23 = some [8, 4, 6, 5, 3, 7] := by kernel_rfl
@[go_sem] theorem live_5_24 : C.live 5 24 = some [] := by kernel_rfl
@[go_sem] theorem live_5_22 : C.live 5 22 = some [4, 7, 3, 5, 6] := by kernel_rfl
@[go_sem] theorem live_5_7 : C.live 5 7 = some [7, 3, 5, 6, 4] := by kernel_rfl
@[go_sem] theorem live_5_25 : C.live 5 25 = some [4, 5, 6, 3] := by kernel_rfl
@[go_sem] theorem esc_6 : C.esc 6 = [] := by kernel_rfl
@[go_sem] theorem live_6_0 : C.live 6 0 = some [0, 1, 2] := by kernel_rfl
@[go_sem] theorem live_6_1 : C.live 6 1 = some [3, 4, 5] := by kernel_rfl
@[go_sem] theorem live_6_2 : C.live 6 2 = some [] := by kernel_rfl
@[go_sem] theorem live_6_3 : C.live 6 3 = some [5, 4, 3] := by kernel_rfl
@[go_sem] theorem live_6_4 : C.live 6 4 = some [] := by kernel_rfl
@[go_sem] theorem live_6_5 : C.live 6 5 = some [3, 4, 5] := by kernel_rfl
@[go_sem] theorem live_6_6 : C.live 6 6 = some [7, 8, 9] := by kernel_rfl
@[go_sem] theorem live_6_7 : C.live 6 7 = some [7, 8, 9, 10, 11, 12] := by kernel_rfl
@[go_sem] theorem live_6_8 : C.live 6 8 = some [7, 13, 8, 9, 10, 11, 14, 12] := by kernel_rfl
@[go_sem] theorem live_6_9 : C.live 6 9 = some [] := by kernel_rfl
@[go_sem] theorem live_6_10 : C.live 6 10 = some [12, 14, 11, 10, 9, 8, 13, 7] := by kernel_rfl
@[go_sem] theorem live_6_11 : C.live 6 11 = some [7, 13, 8, 9, 10, 11, 14, 12, 15] := by kernel_rfl
@[go_sem] theorem live_6_13 : C.live 6 13 = some [7, 13, 8, 9, 10, 11, 14, 12, 15] := by kernel_rfl
@[go_sem] theorem live_6_14 : C.live 6 14 = some [16, 17, 7, 13, 8, 9, 10, 11, 14, 12, 15] := by kernel_rfl
@[go_sem] theorem live_6_15 : C.live 6 15 = some [] := by kernel_rfl
@[go_sem] theorem live_6_12 : C.live 6 12 = some [15, 12, 14, 11, 10, 9, 8, 13, 7] := by kernel_rfl
@[go_sem] theorem live_6_16 : C.live 6 16 = some [8, 9, 11, 12, 7, 10] := by kernel_rfl
@[go_sem] theorem live_6_17 : C.live 6 17 = some [18, 11, 12, 7, 10] := by kernel_rfl
@[go_sem] theorem esc_7 : C.esc 7 = [] := by kernel_rfl
@[go_sem] theorem live_7_0 : C.live 7 0 = some [0] := by kernel_rfl
@[go_sem] theorem live_7_1 : C.live 7 1 = some [0] := by kernel_rfl
@[go_sem] theorem live_7_2 : C.live 7 2 = some [0, 4, 3] := by kernel_rfl
@[go_sem] theorem live_7_3 : C.live 7 3 = some [3, 4, 5, 0] := by kernel_rfl
@[go_sem] theorem live_7_5 : C.live 7 5 = some [3, 4, 5, 0] := by kernel_rfl
@[go_sem] theorem live_7_6 : C.live 7 6 = some [3, 4, 5, 0] := by kernel_rfl
@[go_sem] theorem live_7_7 : C.live 7 7 = some [3, 4, 5, 0] := by kernel_rfl
@[go_sem] theorem live_7_8 : C.live 7 8 = some [4, 5, 0, 3] := by kernel_rfl
@[go_sem] theorem live_7_4 : C.live 7 4 = some [5, 0, 4, 3] := by kernel_rfl
@[go_sem] theorem live_7_9 : C.live 7 9 = some [4, 3, 0] := by kernel_rfl
@[go_sem] theorem live_7_10 : C.live 7 10 = some [0] := by kernel_rfl
@[go_sem] theorem live_7_11 : C.live 7 11 = some [0, 3] := by kernel_rfl
@[go_sem] theorem esc_8 : C.esc 8 = [3] := by kernel_rfl
@[go_sem] theorem live_8_0 : C.live 8 0 = some [0] := by kernel_rfl
@[go_sem] theorem live_8_1 : C.live 8 1 = some [1] := by kernel_rfl
@[go_sem] theorem live_8_2 : C.live 8 2 = some [] := by kernel_rfl
@[go_sem] theorem live_8_3 : C.live 8 3 = some [1] := by kernel_rfl
@[go_sem] theorem live_8_4 : C.live 8 4 = some [1, 3] := by kernel_rfl
@[go_sem] theorem live_8_5 : C.live 8 5 = some [3] := by kernel_rfl
@[go_sem] theorem live_8_6 : C.live 8 6 = some [1, 3] := by kernel_rfl
@[go_sem] theorem live_8_7 : C.live 8 7 = some [4, 3] := by kernel_rfl
@[go_sem] theorem live_8_8 : C.live 8 8 = some [] := by kernel_rfl
@[go_sem] theorem live_8_9 : C.live 8 9 = some [3] := by kernel_rfl
@[go_sem] theorem esc_9 : C.esc 9 = [29] := by kernel_rfl
@[go_sem] theorem live_9_0 : C.live 9 0 = some [0] := by kernel_rfl
@[go_sem] theorem live_9_1 : C.live 9 1 = some [1] := by kernel_rfl
@[go_sem] theorem live_9_2 : C.live 9 2 = some [] := by kernel_rfl
@[go_sem] theorem live_9_3 : C.live 9 3 = some [1] := by kernel_rfl
@[go_sem] theorem live_9_4 : C.live 9 4 = some [3, 1] := by kernel_rfl
@[go_sem] theorem live_9_5 : C.live 9 5 = some [3, 13, 11, 1, 12] := by kernel_rfl
@[go_sem] theorem live_9_6 : C.live 9 6 = some [3, 13, 11, 1, 12] := by kernel_rfl
@[go_sem] theorem live_9_7 : C.live 9 7 = some [3, 5, 13, 11, 1, 12] := by kernel_rfl
@[go_sem] theorem live_9_8 : C.live 9 8 = some [13, 3, 11, 1, 12] := by kernel_rfl
@[go_sem] theorem live_9_9 : C.live 9 9 = some [3, 1] := by kernel_rfl
@[go_sem] theorem live_9_10 : C.live 9 10 = some [3, 1, 6] := by kernel_rfl
@[go_sem] theorem live_9_11 : C.live 9 11 = some [1, 6] := by kernel_rfl
@[go_sem] theorem live_9_12 : C.live 9 12 = some [6] := by kernel_rfl
@[go_sem] theorem live_9_13 : C.live 9 13 = some [6] := by kernel_rfl
@[go_sem] theorem esc_10 : C.esc 10 = [] := by kernel_rfl
@[go_sem] theorem live_10_0 : C.live 10 0 = some [0, 1] := by kernel_rfl
@[go_sem] theorem live_10_1 : C.live 10 1 = some [2, 3] := by kernel_rfl
@[go_sem] theorem live_10_2 : C.live 10 2 = some [] := by kernel_rfl
@[go_sem] theorem live_10_3 : C.live 10 3 = some [3, 2] := by kernel_rfl
@[go_sem] theorem live_10_4 : C.live 10 4 = some [2, 3, 5] := by kernel_rfl
@[go_sem] theorem live_10_6 : C.live 10 6 = some [2, 3, 5] := by kernel_rfl
@[go_sem] theorem live_10_7 : C.live 10 7 = some [] := by kernel_rfl
@[go_sem] theorem live_10_5 : C.live 10 5 = some [5, 3, 2] := by kernel_rfl
@[go_sem] theorem live_10_8 : C.live 10 8 = some [2, 3] := by kernel_rfl
@[go_sem] theorem esc_11 : C.esc 11 = [] := by kernel_rfl
@[go_sem] theorem live_11_0 : C.live 11 0 = some [0] := by kernel_rfl
@[go_sem] theorem live_11_1 : C.live 11 1 = some [1] := by kernel_rfl
@[go_sem] theorem esc_12 : C.esc 12 = [] := by kernel_rfl
@[go_sem] theorem live_12_0 : C.live 12 0 = some [0] := by kernel_rfl
@[go_sem] theorem live_12_1 : C.live 12 1 = some [1] := by kernel_rfl
@[go_sem] theorem live_12_2 : C.live 12 2 = some [] := by kernel_rfl
@[go_sem] theorem live_12_3 : C.live 12 3 = some [1] := by kernel_rfl
@[go_sem] theorem esc_13 : C.esc 13 = [] := by kernel_rfl
@[go_sem] theorem live_13_0 : C.live 13 0 = some [] := by kernel_rfl
@[go_sem] theorem live_13_1 : C.live 13 1 = some [] := by kernel_rfl
@[go_sem] theorem live_13_2 : C.live 13 2 = some [1] := by kernel_rfl
@[go_sem] theorem live_13_3 : C.live 13 3 = some [2, 3, 4, 1] := by kernel_rfl
@[go_sem] theorem live_13_4 : C.live 13 4 = some [1, 5, 6] := by kernel_rfl
@[go_sem] theorem live_13_5 : C.live 13 5 = some [7, 8, 1, 5, 6] := by kernel_rfl
@[go_sem] theorem live_13_6 : C.live 13 6 = some [1, 5, 6, 9] := by kernel_rfl
@[go_sem] theorem esc_14 : C.esc 14 = [] := by kernel_rfl
@[go_sem] theorem live_14_0 : C.live 14 0 = some [0] := by kernel_rfl
@[go_sem] theorem live_14_1 : C.live 14 1 = some [1] := by kernel_rfl
@[go_sem] theorem live_14_2 : C.live 14 2 = some [] := by kernel_rfl
@[go_sem] theorem live_14_3 : C.live 14 3 = some [1] := by kernel_rfl
@[go_sem] theorem esc_15 : C.esc 15 = [] := by kernel_rfl
@[go_sem] theorem live_15_0 : C.live 15 0 = some [0, 1] := by kernel_rfl
@[go_sem] theorem live_15_1 : C.live 15 1 = some [0, 1, 4] := by kernel_rfl
@[go_sem] theorem esc_16 : C.esc 16 = [] := by kernel_rfl
@[go_sem] theorem live_16_0 : C.live 16 0 = some [0] := by kernel_rfl
@[go_sem] theorem live_16_1 : C.live 16 1 = some [0] := by kernel_rfl
@[go_sem] theorem live_16_2 : C.live 16 2 = some [0, 3] := by kernel_rfl
@[go_sem] theorem live_16_3 : C.live 16 3 = some [8, 7, 9, 3] := by kernel_rfl
@[go_sem] theorem live_16_4 : C.live 16 4 = some [8, 7, 9, 3] := by kernel_rfl
@[go_sem] theorem live_16_5 : C.live 16 5 = some [5, 8, 7, 9, 3] := by kernel_rfl
@[go_sem] theorem live_16_6 : C.live 16 6 = some [8, 7, 9, 6, 3] := by kernel_rfl
@[go_sem] theorem live_16_7 : C.live 16 7 = some [] := by kernel_rfl
@[go_sem] theorem live_16_8 : C.live 16 8 = some [3, 6, 9, 7, 8] := by kernel_rfl
@[go_sem] theorem live_16_9 : C.live 16 9 = some [9, 3, 7, 8] := by kernel_rfl
@[go_sem] theorem live_16_10 : C.live 16 10 = some [3] := by kernel_rfl
@[go_sem] theorem esc_17 : C.esc 17 = [] := by kernel_rfl
@[go_sem] theorem live_17_0 : C.live 17 0 = some [0] := by kernel_rfl
@[go_sem] theorem live_17_1 : C.live 17 1 = some [0] := by kernel_rfl
@[go_sem] theorem esc_18 : C.esc 18 = [4] := by kernel_rfl
@[go_sem] theorem live_18_0 : C.live 18 0 = some [0] := by kernel_rfl
@[go_sem] theorem live_18_1 : C.live 18 1 = some [0] := by kernel_rfl
@[go_sem] theorem live_18_2 : C.live 18 2 = some [] := by kernel_rfl
@[go_sem] theorem live_18_3 : C.live 18 3 = some [0] := by kernel_rfl
@[go_sem] theorem live_18_4 : C.live 18 4 = some [9, 8, 0, 10] := by kernel_rfl
@[go_sem] theorem live_18_5 : C.live 18 5 = some [9, 8, 0, 10] := by kernel_rfl
@[go_sem] theorem live_18_6 : C.live 18 6 = some [3, 4, 9, 8, 0, 10] := by kernel_rfl
@[go_sem] theorem live_18_8 : C.live 18 8 = some [10, 0, 8, 9, 4, 3] := by kernel_rfl
@[go_sem] theorem live_18_10 : C.live 18 10 = some [3, 4, 9, 8, 0, 10] := by kernel_rfl
@[go_sem] theorem live_18_11 : C.live 18 11 = some [] := by kernel_rfl
@[go_sem] theorem live_18_9 : C.live 18 9 = some [] := by kernel_rfl
@[go_sem] theorem live_18_7 : C.live 18 7 = some [] := by kernel_rfl
@[go_sem] theorem live_18_12 : C.live 18 12 = some [10, 0, 8, 9] := by kernel_rfl
@[go_sem] theorem live_18_13 : C.live 18 13 = some [] := by kernel_rfl
@[go_sem] theorem esc_19 : C.esc 19 = [11] := by kernel_rfl
@[go_sem] theorem live_19_0 : C.live 19 0 = some [0, 1, 2] := by kernel_rfl
@[go_sem] theorem live_19_1 : C.live 19 1 = some [1, 2, 3] := by kernel_rfl
@[go_sem] theorem live_19_2 : C.live 19 2 = some [3, 7] := by kernel_rfl
@[go_sem] theorem live_19_3 : C.live 19 3 = some [7] := by kernel_rfl
@[go_sem] theorem esc_20 : C.esc 20 = [] := by kernel_rfl
@[go_sem] theorem live_20_0 : C.live 20 0 = some [0, 1, 2] := by kernel_rfl
@[go_sem] theorem live_20_1 : C.live 20 1 = some [3, 1, 2] := by kernel_rfl
@[go_sem] theorem live_20_2 : C.live 20 2 = some [3, 1, 2] := by kernel_rfl
@[go_sem] theorem esc_21 : C.esc 21 = [] := by kernel_rfl
@[go_sem] theorem live_21_0 : C.live 21 0 = some [0, 1] := by kernel_rfl
@[go_sem] theorem live_21_1 : C.live 21 1 = some [1, 2] := by kernel_rfl
@[go_sem] theorem live_21_2 : C.live 21 2 = some [6, 1, 2, 5] := by kernel_rfl
@[go_sem] theorem live_21_3 : C.live 21 3 = some [] := by kernel_rfl
@[go_sem] theorem live_21_4 : C.live 21 4 = some [5, 2, 1] := by kernel_rfl
@[go_sem] theorem live_21_5 : C.live 21 5 = some [] := by kernel_rfl
@[go_sem] theorem live_21_6 : C.live 21 6 = some [1, 2, 5] := by kernel_rfl
@[go_sem] theorem live_21_7 : C.live 21 7 = some [1, 2, 5] := by kernel_rfl
@[go_sem] theorem live_21_8 : C.live 21 8 = some [1, 2, 5, 7] := by kernel_rfl
@[go_sem] theorem live_21_9 : C.live 21 9 = some [7] := by kernel_rfl
@[go_sem] theorem live_21_10 : C.live 21 10 = some [5, 2, 1] := by kernel_rfl
@[go_sem] theorem live_21_11 : C.live 21 11 = some [2, 1] := by kernel_rfl
@[go_sem] theorem live_21_12 : C.live 21 12 = some [1, 8] := by kernel_rfl
@[go_sem] theorem live_21_13 : C.live 21 13 = some [8] := by kernel_rfl
@[go_sem] theorem live_21_14 : C.live 21 14 = some [1] := by kernel_rfl
@[go_sem] theorem live_21_15 : C.live 21 15 = some [] := by kernel_rfl
@[go_sem] theorem live_21_16 : C.live 21 16 = some [] := by kernel_rfl
@[go_sem] theorem esc_22 : C.esc 22 = [] := by kernel_rfl
@[go_sem] theorem live_22_0 : C.live 22 0 = some [0] := by kernel_rfl
@[go_sem] theorem esc_23 : C.esc 23 = [] := by kernel_rfl
@[go_sem] theorem live_23_0 : C.live 23 0 = some [0] := by kernel_rfl
@[go_sem] theorem live_23_1 : C.live 23 1 = some [0] := by kernel_rfl
@[go_sem] theorem live_23_2 : C.live 23 2 = some [3] := by kernel_rfl
@[go_sem] theorem live_23_4 : C.live 23 4 = some [3] := by kernel_rfl
@[go_sem] theorem live_23_5 : C.live 23 5 = some [] := by kernel_rfl
@[go_sem] theorem live_23_3 : C.live 23 3 = some [] := by kernel_rfl
@[go_sem] theorem live_23_6 : C.live 23 6 = some [] := by kernel_rfl
@[go_sem] theorem esc_24 : C.esc 24 = [] := by kernel_rfl
@[go_sem] theorem live_24_0 : C.live 24 0 = some [0, 1] := by kernel_rfl
@[go_sem] theorem live_24_1 : C.live 24 1 = some [10, 0, 1, 9] := by kernel_rfl
@[go_sem] theorem live_24_2 : C.live 24 2 = some [10, 0, 1, 9] := by kernel_rfl
@[go_sem] theorem live_24_3 : C.live 24 3 = some [10, 0, 1, 9] := by kernel_rfl
@[go_sem] theorem live_24_4 : C.live 24 4 = some [1, 0] := by kernel_rfl
@[go_sem] theorem live_24_5 : C.live 24 5 = some [19, 0, 17, 18] := by kernel_rfl
@[go_sem] theorem live_24_6 : C.live 24 6 = some [19, 0, 17, 18] := by kernel_rfl
@[go_sem] theorem live_24_7 : C.live 24 7 = some [5, 19, 0, 17, 18] := by kernel_rfl
@[go_sem] theorem live_24_8 : C.live 24 8 = some [19, 0, 17, 18] := by kernel_rfl
@[go_sem] theorem live_24_9 : C.live 24 9 = some [0] := by kernel_rfl
@[go_sem] theorem esc_25 : C.esc 25 = [8] := by kernel_rfl
@[go_sem] theorem live_25_0 : C.live 25 0 = some [0, 1] := by kernel_rfl
@[go_sem] theorem live_25_1 : C.live 25 1 = some [0, 1] := by kernel_rfl
@[go_sem] theorem live_25_2 : C.live 25 2 = some [0, 1, 12] := by kernel_rfl
@[go_sem] theorem live_25_4 : C.live 25 4 = some [12, 1, 0] := by kernel_rfl
@[go_sem] theorem live_25_5 : C.live 25 5 = some [0] := by kernel_rfl
@[go_sem] theorem live_25_3 : C.live 25 3 = some [] := by kernel_rfl
@[go_sem] theorem live_25_6 : C.live 25 6 = some [0, 1] := by kernel_rfl
@[go_sem] theorem live_25_7 : C.live 25 7 = some [5, 0, 1] := by kernel_rfl
@[go_sem] theorem live_25_8 : C.live 25 8 = some [5, 0, 1] := by kernel_rfl
@[go_sem] theorem live_25_9 : C.live 25 9 = some [5, 0, 1] := by kernel_rfl
@[go_sem] theorem live_25_10 : C.live 25 10 = some [5, 0, 1] := by kernel_rfl
@[go_sem] theorem live_25_11 : C.live 25 11 = some [5, 0, 1] := by kernel_rfl
@[go_sem] theorem live_25_12 : C.live 25 12 = some [5, 41, 39, 0, 1, 40] := by kernel_rfl
@[go_sem] theorem live_25_13 : C.live 25 13 = some [5, 41, 39, 0, 1, 40] := by kernel_rfl
@[go_sem] theorem live_25_14 : C.live 25 14 = some [5, 7, 41, 39, 0, 1, 40] := by kernel_rfl
@[go_sem] theorem live_25_15 : C.live 25 15 = some [5, 7, 41, 39, 0, 1, 40] := by kernel_rfl
@[go_sem] theorem live_25_16 : C.live 25 16 = some [5, 7, 41, 39, 0, 1, 40] := by kernel_rfl
@[go_sem] theorem live_25_17 : C.live 25 17 = some [41, 5, 39, 0, 1, 40] := by kernel_rfl
@[go_sem] theorem live_25_18 : C.live 25 18 = some [5, 0, 1] := by kernel_rfl
@[go_sem] theorem live_25_19 : C.live 25 19 = some [5, 0, 8, 1] := by kernel_rfl
@[go_sem] theorem live_25_20 : C.live 25 20 = some [0, 8, 1] := by kernel_rfl
@[go_sem] theorem live_25_21 : C.live 25 21 = some [0, 8, 1] := by kernel_rfl
@[go_sem] theorem live_25_22 : C.live 25 22 = some [65, 8, 1, 63, 64] := by kernel_rfl
@[go_sem] theorem live_25_23 : C.live 25 23 = some [65, 8, 1, 63, 64] := by kernel_rfl
@[go_sem] theorem live_25_24 : C.live 25 24 = some [10, 65, 8, 1, 63, 64] := by kernel_rfl
@[go_sem] theorem live_25_25 : C.live 25 25 = some [10, 65, 8, 1, 63, 64] := by kernel_rfl
@[go_sem] theorem live_25_26 : C.live 25 26 = some [65, 8, 1, 63, 64] := by kernel_rfl
@[go_sem] theorem live_25_27 : C.live 25 27 = some [8] := by kernel_rfl
@[go_sem] theorem esc_26 : C.esc 26 = [] := by kernel_rfl
@[go_sem] theorem live_26_0 : C.live 26 0 = some [1, 0] := by kernel_rfl
@[go_sem] theorem live_26_1 : C.live 26 1 = some [1, 0] := by kernel_rfl
@[go_sem] theorem live_26_2 : C.live 26 2 = some [16, 0, 14, 15] := by kernel_rfl
@[go_sem] theorem live_26_3 : C.live 26 3 = some [16, 0, 14, 15] := by kernel_rfl
@[go_sem] theorem live_26_4 : C.live 26 4 = some [5, 16, 0, 14, 15] := by kernel_rfl
@[go_sem] theorem live_26_5 : C.live 26 5 = some [6, 5, 16, 0, 14, 15] := by kernel_rfl
@[go_sem] theorem live_26_6 : C.live 26 6 = some [16, 0, 14, 15] := by kernel_rfl
@[go_sem] theorem live_26_7 : C.live 26 7 = some [0] := by kernel_rfl
@[go_sem] theorem esc_27 : C.esc 27 = [] := by kernel_rfl
@[go_sem] theorem live_27_0 : C.live 27 0 = some [0] := by kernel_rfl
@[go_sem] theorem live_27_1 : C.live 27 1 = some [0] := by kernel_rfl
@[go_sem] theorem esc_28 : C.esc 28 = [] := by kernel_rfl
@[go_sem] theorem live_28_0 : C.live 28 0 = some [0, 1] := by kernel_rfl
@[go_sem] theorem live_28_1 : C.live 28 1 = some [0, 1] := by kernel_rfl
@[go_sem] theorem live_28_2 : C.live 28 2 = some [] := by kernel_rfl
@[go_sem] theorem live_28_3 : C.live 28 3 = some [1, 0] := by kernel_rfl
@[go_sem] theorem live_28_4 : C.live 28 4 = some [0, 1, 5] := by kernel_rfl
@[go_sem] theorem live_28_6 : C.live 28 6 = some [0, 1, 5] := by kernel_rfl
@[go_sem] theorem live_28_7 : C.live 28 7 = some [6, 7, 0, 1, 5] := by kernel_rfl
@[go_sem] theorem live_28_8 : C.live 28 8 = some [] := by kernel_rfl
@[go_sem] theorem live_28_5 : C.live 28 5 = some [5, 1, 0] := by kernel_rfl
@[go_sem] theorem live_28_9 : C.live 28 9 = some [] := by kernel_rfl
@[go_sem] theorem esc_29 : C.esc 29 = [] := by kernel_rfl
@[go_sem] theorem live_29_0 : C.live 29 0 = some [0, 1] := by kernel_rfl
@[go_sem] theorem live_29_1 : C.live 29 1 = some [1, 2] := by kernel_rfl
@[go_sem] theorem live_29_2 : C.live 29 2 = some [1, 2, 5] := by kernel_rfl
@[go_sem] theorem live_29_3 : C.live 29 3 = some [5] := by kernel_rfl
@[go_sem] theorem live_29_4 : C.live 29 4 = some [2, 1] := by kernel_rfl
@[go_sem] theorem live_29_5 : C.live 29 5 = some [17, 16, 1, 18] := by kernel_rfl
@[go_sem] theorem live_29_6 : C.live 29 6 = some [17, 16, 1, 18] := by kernel_rfl
@[go_sem] theorem live_29_7 : C.live 29 7 = some [7, 17, 16, 1, 18] := by kernel_rfl
@[go_sem] theorem live_29_8 : C.live 29 8 = some [17, 16, 1, 18, 8] := by kernel_rfl
@[go_sem] theorem live_29_9 : C.live 29 9 = some [8] := by kernel_rfl
@[go_sem] theorem live_29_10 : C.live 29 10 = some [18, 1, 16, 17] := by kernel_rfl
@[go_sem] theorem live_29_11 : C.live 29 11 = some [] := by kernel_rfl
@[go_sem] theorem esc_30 : C.esc 30 = [] := by kernel_rfl
@[go_sem] theorem live_30_0 : C.live 30 0 = some [0] := by kernel_rfl
@[go_sem] theorem live_30_1 : C.live 30 1 = some [1] := by kernel_rfl
@[go_sem] theorem live_30_2 : C.live 30 2 = some [3, 1] := by kernel_rfl
@[go_sem] theorem live_30_4 : C.live 30 4 = some [3, 1] := by kernel_rfl
@[go_sem] theorem live_30_7 : C.live 30 7 = some [3, 1] := by kernel_rfl
@[go_sem] theorem live_30_9 : C.live 30 9 = some [1, 3] := by kernel_rfl
@[go_sem] theorem live_30_11 : C.live 30 11 = some [1, 3] := by kernel_rfl
@[go_sem] theorem live_30_13 : C.live 30 13 = some [3, 1] := by kernel_rfl
@[go_sem] theorem live_30_15 : C.live 30 15 = some [3, 1] := by kernel_rfl
@[go_sem] theorem live_30_17 : C.live 30 17 = some [3, 1] := by kernel_rfl
@[go_sem] theorem live_30_18 : C.live 30 18 = some [1] := by kernel_rfl
@[go_sem] theorem live_30_16 : C.live 30 16 = some [1] := by kernel_rfl
@[go_sem] theorem live_30_14 : C.live 30 14 = some [1] := by kernel_rfl
@[go_sem] theorem live_30_12 : C.live 30 12 = some [1, 3] := by kernel_rfl
@[go_sem] theorem live_30_10 : C.live 30 10 = some [1, 3] := by kernel_rfl
@[go_sem] theorem live_30_8 : C.live 30 8 = some [1] := by kernel_rfl
@[go_sem] theorem live_30_5 : C.live 30 5 = some [1] := by kernel_rfl
@[go_sem] theorem live_30_6 : C.live 30 6 = some [4] := by kernel_rfl
@[go_sem] theorem live_30_3 : C.live 30 3 = some [1] := by kernel_rfl
@[go_sem] theorem live_30_19 : C.live 30 19 = some [1, 3] := by kernel_rfl
@[go_sem] theorem esc_31 : C.esc 31 = [] := by kernel_rfl
@[go_sem] theorem live_31_0 : C.live 31 0 = some [0] := by kernel_rfl
@[go_sem] theorem live_31_1 : C.live 31 1 = some [0, 2] := by kernel_rfl
@[go_sem] theorem esc_32 : C.esc 32 = [] := by kernel_rfl
@[go_sem] theorem live_32_0 : C.live 32 0 = some [0] := by kernel_rfl
@[go_sem] theorem live_32_1 : C.live 32 1 = some [0, 2] := by kernel_rfl
@[go_sem] theorem esc_33 : C.esc 33 = [] := by kernel_rfl
@[go_sem] theorem live_33_0 : C.live 33 0 = some [0] := by kernel_rfl
@[go_sem] theorem live_33_1 : C.live 33 1 = some [1] := by kernel_rfl
@[go_sem] theorem esc_34 : C.esc 34 = [] := by kernel_rfl
@[go_sem] theorem live_34_0 : C.live 34 0 = some [0] := by kernel_rfl
@[go_sem] theorem live_34_1 : C.live 34 1 = some [1] := by kernel_rfl
@[go_sem] theorem live_34_2 : C.live 34 2 = some [3, 1] := by kernel_rfl
@[go_sem] theorem live_34_3 : C.live 34 3 = some [3, 10, 1] := by kernel_rfl
@[go_sem] theorem live_34_5 : C.live 34 5 = some [10, 3, 1] := by kernel_rfl
@[go_sem] theorem live_34_8 : C.live 34 8 = some [3, 10, 1] := by kernel_rfl
@[go_sem] theorem live_34_10 : C.live 34 10 = some [10, 1, 3] := by kernel_rfl
@[go_sem] theorem live_34_12 : C.live 34 12 = some [10, 1, 3] := by kernel_rfl
@[go_sem] theorem live_34_13 : C.live 34 13 = some [1, 3] := by kernel_rfl
@[go_sem] theorem live_34_11 : C.live 34 11 = some [1, 3] := by kernel_rfl
@[go_sem] theorem live_34_9 : C.live 34 9 = some [1] := by kernel_rfl
@[go_sem] theorem live_34_6 : C.live 34 6 = some [1] := by kernel_rfl
@[go_sem] theorem live_34_7 : C.live 34 7 = some [4] := by kernel_rfl
@[go_sem] theorem live_34_4 : C.live 34 4 = some [1] := by kernel_rfl
@[go_sem] theorem live_34_14 : C.live 34 14 = some [3, 1] := by kernel_rfl
@[go_sem] theorem live_34_15 : C.live 34 15 = some [1] := by kernel_rfl
@[go_sem] theorem live_34_16 : C.live 34 16 = some [3, 1] := by kernel_rfl
@[go_sem] theorem live_34_17 : C.live 34 17 = some [1] := by kernel_rfl
@[go_sem] theorem live_34_18 : C.live 34 18 = some [3, 1] := by kernel_rfl
@[go_sem] theorem live_34_19 : C.live 34 19 = some [1] := by kernel_rfl
@[go_sem] theorem live_34_20 : C.live 34 20 = some [1, 3] := by kernel_rfl
@[go_sem] theorem esc_35 : C.esc 35 = [] := by kernel_rfl
@[go_sem] theorem live_35_0 : C.live 35 0 = some [0] := by kernel_rfl
@[go_sem] theorem live_35_1 : C.live 35 1 = some [0] := by kernel_rfl
@[go_sem] theorem esc_36 : C.esc 36 = [] := by kernel_rfl
@[go_sem] theorem live_36_0 : C.live 36 0 = some [0] := by kernel_rfl
@[go_sem] theorem live_36_1 : C.live 36 1 = some [0] := by kernel_rfl
@[go_sem] theorem live_36_2 : C.live 36 2 = some [6, 0] := by kernel_rfl
@[go_sem] theorem live_36_3 : C.live 36 3 = some [7, 6, 0] := by kernel_rfl
@[go_sem] theorem live_36_4 : C.live 36 4 = some [4, 6, 0, 3] := by kernel_rfl
@[go_sem] theorem live_36_5 : C.live 36 5 = some [3] := by kernel_rfl
@[go_sem] theorem live_36_6 : C.live 36 6 = some [0] := by kernel_rfl
@[go_sem] theorem esc_37 : C.esc 37 = [] := by kernel_rfl
@[go_sem] theorem live_37_0 : C.live 37 0 = some [0] := by kernel_rfl
@[go_sem] theorem live_37_1 : C.live 37 1 = some [0] := by kernel_rfl
@[go_sem] theorem live_37_2 : C.live 37 2 = some [3] := by kernel_rfl
@[go_sem] theorem live_37_3 : C.live 37 3 = some [3] := by kernel_rfl
@[go_sem] theorem live_37_4 : C.live 37 4 = some [3] := by kernel_rfl
@[go_sem] theorem live_37_5 : C.live 37 5 = some [3] := by kernel_rfl
@[go_sem] theorem live_37_6 : C.live 37 6 = some [3] := by kernel_rfl
@[go_sem] theorem live_37_7 : C.live 37 7 = some [3] := by kernel_rfl
@[go_sem] theorem live_37_8 : C.live 37 8 = some [3] := by kernel_rfl
@[go_sem] theorem live_37_9 : C.live 37 9 = some [3] := by kernel_rfl
@[go_sem] theorem live_37_10 : C.live 37 10 = some [3] := by kernel_rfl
@[go_sem] theorem live_37_11 : C.live 37 11 = some [3] := by kernel_rfl
@[go_sem] theorem live_37_12 : C.live 37 12 = some [3] := by kernel_rfl
@[go_sem] theorem live_37_13 : C.live 37 13 = some [3] := by kernel_rfl
@[go_sem] theorem live_37_14 : C.live 37 14 = some [3] := by kernel_rfl
@[go_sem] theorem live_37_15 : C.live 37 15 = some [3] := by kernel_rfl
@[go_sem] theorem live_37_16 : C.live 37 16 = some [3] := by kernel_rfl
@[go_sem] theorem live_37_17 : C.live 37 17 = some [3] := by kernel_rfl
@[go_sem] theorem live_37_18 : C.live 37 18 = some [3] := by kernel_rfl
@[go_sem] theorem live_37_19 : C.live 37 19 = some [3] := by kernel_rfl
@[go_sem] theorem live_37_20 : C.live 37 20 = some [3] := by kernel_rfl
@[go_sem] theorem live_37_21 : C.live 37 21 = some [3] := by kernel_rfl
@[go_sem] theorem live_37_22 : C.live 37 22 = some [3] := by kernel_rfl
@[go_sem] theorem live_37_23 : C.live 37 23 = some [3] := by kernel_rfl
@[go_sem] theorem live_37_24 : C.live 37 24 = some [3] := by kernel_rfl
@[go_sem] theorem live_37_25 : C.live 37 25 = some [3] := by kernel_rfl
@[go_sem] theorem live_37_26 : C.live 37 26 = some [3] := by kernel_rfl
@[go_sem] theorem live_37_27 : C.live 37 27 = some [] := by kernel_rfl
@[go_sem] theorem live_37_28 : C.live 37 28 = some [] := by kernel_rfl
@[go_sem] theorem esc_38 : C.esc 38 = [] := by kernel_rfl
@[go_sem] theorem live_38_0 : C.live 38 0 = some [0, 1] := by kernel_rfl
@[go_sem] theorem live_38_1 : C.live 38 1 = some [0, 1] := by kernel_rfl
@[go_sem] theorem esc_39 : C.esc 39 = [] := by kernel_rfl
@[go_sem] theorem live_39_0 : C.live 39 0 = some [0, 1] := by kernel_rfl
@[go_sem] theorem live_39_1 : C.live 39 1 = some [2, 1] := by kernel_rfl
@[go_sem] theorem esc_40 : C.esc 40 = [] := by kernel_rfl
@[go_sem] theorem live_40_0 : C.live 40 0 = some [1, 0, 2] := by kernel_rfl
@[go_sem] theorem live_40_1 : C.live 40 1 = some [9, 8, 2, 0, 10] := by kernel_rfl
@[go_sem] theorem live_40_2 : C.live 40 2 = some [9, 8, 2, 0, 10] := by kernel_rfl
@[go_sem] theorem live_40_3 : C.live 40 3 = some [9, 8, 2, 0, 10, 7] := by kernel_rfl
@[go_sem] theorem live_40_4 : C.live 40 4 = some [7, 10, 0, 2, 8, 9] := by kernel_rfl
@[go_sem] theorem live_40_5 : C.live 40 5 = some [7, 10, 0, 2, 8, 9] := by kernel_rfl
@[go_sem] theorem live_40_6 : C.live 40 6 = some [7, 10, 0, 2, 8, 9] := by kernel_rfl
@[go_sem] theorem live_40_7 : C.live 40 7 = some [7, 10, 0, 2, 8, 9] := by kernel_rfl
@[go_sem] theorem live_40_8 : C.live 40 8 = some [7, 10, 0, 2, 8, 9] := by kernel_rfl
@[go_sem] theorem live_40_9 : C.live 40 9 = some [7, 10, 0, 2, 8, 9] := by kernel_rfl
@[go_sem] theorem live_40_10 : C.live 40 10 = some [10, 0, 2, 8, 9] := by kernel_rfl
@[go_sem] theorem esc_41 : C.esc 41 = [] := by kernel_rfl
@[go_sem] theorem live_41_0 : C.live 41 0 = some [0] := by kernel_rfl
@[go_sem] theorem live_41_1 : C.live 41 1 = some [0, 2] := by kernel_rfl
@[go_sem] theorem live_41_2 : C.live 41 2 = some [4, 2] := by kernel_rfl
@[go_sem] theorem live_41_3 : C.live 41 3 = some [4, 2] := by kernel_rfl
@[go_sem] theorem live_41_5 : C.live 41 5 = some [4, 2] := by kernel_rfl
@[go_sem] theorem live_41_7 : C.live 41 7 = some [4, 2] := by kernel_rfl
@[go_sem] theorem live_41_8 : C.live 41 8 = some [4, 2] := by kernel_rfl
@[go_sem] theorem live_41_10 : C.live 41 10 = some [4, 2] := by kernel_rfl
@[go_sem] theorem live_41_12 : C.live 41 12 = some [4, 2] := by kernel_rfl
@[go_sem] theorem live_41_14 : C.live 41 14 = some [4, 2] := by kernel_rfl
@[go_sem] theorem live_41_15 : C.live 41 15 = some [2] := by kernel_rfl
@[go_sem] theorem live_41_13 : C.live 41 13 = some [2] := by kernel_rfl
@[go_sem] theorem live_41_11 : C.live 41 11 = some [2] := by kernel_rfl
@[go_sem] theorem live_41_9 : C.live 41 9 = some [2] := by kernel_rfl
@[go_sem] theorem live_41_6 : C.live 41 6 = some [2] := by kernel_rfl
@[go_sem] theorem live_41_4 : C.live 41 4 = some [2] := by kernel_rfl
@[go_sem] theorem live_41_16 : C.live 41 16 = some [2] := by kernel_rfl
@[go_sem] theorem esc_42 : C.esc 42 = [] := by kernel_rfl
@[go_sem] theorem live_42_0 : C.live 42 0 = some [0, 1] := by kernel_rfl
@[go_sem] theorem live_42_1 : C.live 42 1 = some [3, 2] := by kernel_rfl
@[go_sem] theorem live_42_2 : C.live 42 2 = some [] := by kernel_rfl
@[go_sem] theorem live_42_3 : C.live 42 3 = some [2] := by kernel_rfl
@[go_sem] theorem live_42_4 : C.live 42 4 = some [68, 2] := by kernel_rfl
@[go_sem] theorem live_42_6 : C.live 42 6 = some [68, 2] := by kernel_rfl
@[go_sem] theorem live_42_7 : C.live 42 7 = some [2] := by kernel_rfl
@[go_sem] theorem live_42_5 : C.live 42 5 = some [2] := by kernel_rfl
@[go_sem] theorem live_42_8 : C.live 42 8 = some [] := by kernel_rfl
@[go_sem] theorem esc_43 : C.esc 43 = [] := by kernel_rfl
@[go_sem] theorem live_43_0 : C.live 43 0 = some [0, 1] := by kernel_rfl
@[go_sem] theorem live_43_1 : C.live 43 1 = some [0, 1] := by kernel_rfl
@[go_sem] theorem live_43_2 : C.live 43 2 = some [0, 1] := by kernel_rfl
@[go_sem] theorem live_43_3 : C.live 43 3 = some [1] := by kernel_rfl
@[go_sem] theorem esc_44 : C.esc 44 = [] := by kernel_rfl
@[go_sem] theorem live_44_0 : C.live 44 0 = some [0, 1] := by kernel_rfl
@[go_sem] theorem live_44_1 : C.live 44 1 = some [0, 1] := by kernel_rfl
@[go_sem] theorem live_44_2 : C.live 44 2 = some [0, 1] := by kernel_rfl
@[go_sem] theorem live_44_3 : C.live 44 3 = some [] := by kernel_rfl
@[go_sem] theorem esc_45 : C.esc 45 = [] := by kernel_rfl
@[go_sem] theorem live_45_0 : C.live 45 0 = some [0, 1] := by kernel_rfl
@[go_sem] theorem live_45_1 : C.live 45 1 = some [0, 1] := by kernel_rfl
@[go_sem] theorem live_45_2 : C.live 45 2 = some [0, 1] := by kernel_rfl
@[go_sem] theorem live_45_3 : C.live 45 3 = some [0, 1] := by kernel_rfl
@[go_sem] theorem live_45_4 : C.live 45 4 = some [0, 1] := by kernel_rfl
@[go_sem] theorem esc_46 : C.esc 46 = [] := by kernel_rfl
@[go_sem] theorem live_46_0 : C.live 46 0 = some [0] := by kernel_rfl
@[go_sem] theorem live_46_1 : C.live 46 1 = some [0] := by kernel_rfl
@[go_sem] theorem live_46_2 : C.live 46 2 = some [3] := by kernel_rfl
@[go_sem] theorem live_46_4 : C.live 46 4 = some [3] := by kernel_rfl
@[go_sem] theorem live_46_6 : C.live 46 6 = some [3] := by kernel_rfl
@[go_sem] theorem live_46_8 : C.live 46 8 = some [3] := by kernel_rfl
@[go_sem] theorem live_46_10 : C.live 46 10 = some [3] := by kernel_rfl
@[go_sem] theorem live_46_12 : C.live 46 12 = some [3] := by kernel_rfl
@[go_sem] theorem live_46_14 : C.live 46 14 = some [3] := by kernel_rfl
@[go_sem] theorem live_46_15 : C.live 46 15 = some [] := by kernel_rfl
@[go_sem] theorem live_46_13 : C.live 46 13 = some [] := by kernel_rfl
@[go_sem] theorem live_46_11 : C.live 46 11 = some [] := by kernel_rfl
@[go_sem] theorem live_46_9 : C.live 46 9 = some [] := by kernel_rfl
@[go_sem] theorem live_46_7 : C.live 46 7 = some [] := by kernel_rfl
@[go_sem] theorem live_46_5 : C.live 46 5 = some [] := by kernel_rfl
@[go_sem] theorem live_46_3 : C.live 46 3 = some [] := by kernel_rfl
@[go_sem] theorem live_46_16 : C.live 46 16 = some [] := by kernel_rfl
@[go_sem] theorem esc_47 : C.esc 47 = [] := by kernel_rfl
@[go_sem] theorem live_47_0 : C.live 47 0 = some [0, 1] := by kernel_rfl
@[go_sem] theorem live_47_1 : C.live 47 1 = some [2, 3] := by kernel_rfl
@[go_sem] theorem live_47_2 : C.live 47 2 = some [] := by kernel_rfl
@[go_sem] theorem live_47_3 : C.live 47 3 = some [3, 2] := by kernel_rfl
@[go_sem] theorem live_47_4 : C.live 47 4 = some [2, 3, 5] := by kernel_rfl
@[go_sem] theorem live_47_6 : C.live 47 6 = some [2, 3, 5] := by kernel_rfl
@[go_sem] theorem live_47_7 : C.live 47 7 = some [] := by kernel_rfl
@[go_sem] theorem live_47_5 : C.live 47 5 = some [5, 3, 2] := by kernel_rfl
@[go_sem] theorem live_47_8 : C.live 47 8 = some [] := by kernel_rfl
@[go_sem] theorem esc_48 : C.esc 48 = [] := by kernel_rfl
@[go_sem] theorem live_48_0 : C.live 48 0 = some [0, 1] := by kernel_rfl
@[go_sem] theorem live_48_1 : C.live 48 1 = some [2, 1] := by kernel_rfl
@[go_sem] theorem live_48_2 : C.live 48 2 = some [2, 5, 1] := by kernel_rfl
@[go_sem] theorem live_48_4 : C.live 48 4 = some [1, 5, 2] := by kernel_rfl
@[go_sem] theorem live_48_6 : C.live 48 6 = some [2, 5, 1] := by kernel_rfl
@[go_sem] theorem live_48_8 : C.live 48 8 = some [1] := by kernel_rfl
@[go_sem] theorem live_48_9 : C.live 48 9 = some [] := by kernel_rfl
@[go_sem] theorem live_48_7 : C.live 48 7 = some [] := by kernel_rfl
@[go_sem] theorem live_48_5 : C.live 48 5 = some [] := by kernel_rfl
@[go_sem] theorem live_48_3 : C.live 48 3 = some [] := by kernel_rfl
@[go_sem] theorem live_48_10 : C.live 48 10 = some [] := by kernel_rfl
@[go_sem] theorem esc_49 : C.esc 49 = [] := by kernel_rfl
@[go_sem] theorem live_49_0 : C.live 49 0 = some [0] := by kernel_rfl
@[go_sem] theorem live_49_1 : C.live 49 1 = some [0] := by kernel_rfl
@[go_sem] theorem live_49_2 : C.live 49 2 = some [3] := by kernel_rfl
@[go_sem] theorem live_49_4 : C.live 49 4 = some [3] := by kernel_rfl
@[go_sem] theorem live_49_6 : C.live 49 6 = some [3] := by kernel_rfl
@[go_sem] theorem live_49_8 : C.live 49 8 = some [3] := by kernel_rfl
@[go_sem] theorem live_49_9 : C.live 49 9 = some [3] := by kernel_rfl
@[go_sem] theorem live_49_10 : C.live 49 10 = some [3] := by kernel_rfl
@[go_sem] theorem live_49_11 : C.live 49 11 = some [3] := by kernel_rfl
@[go_sem] theorem live_49_12 : C.live 49 12 = some [3] := by kernel_rfl
@[go_sem] theorem live_49_13 : C.live 49 13 = some [3] := by kernel_rfl
@[go_sem] theorem live_49_15 : C.live 49 15 = some [3] := by kernel_rfl
@[go_sem] theorem live_49_17 : C.live 49 17 = some [3] := by kernel_rfl
@[go_sem] theorem live_49_18 : C.live 49 18 = some [3] := by kernel_rfl
@[go_sem] theorem live_49_20 : C.live 49 20 = some [3] := by kernel_rfl
@[go_sem] theorem live_49_21 : C.live 49 21 = some [3] := by kernel_rfl
@[go_sem] theorem live_49_22 : C.live 49 22 = some [3] := by kernel_rfl
@[go_sem] theorem live_49_24 : C.live 49 24 = some [3] := by kernel_rfl
@[go_sem] theorem live_49_25 : C.live 49 25 = some [] := by kernel_rfl
@[go_sem] theorem live_49_23 : C.live 49 23 = some [] := by kernel_rfl
@[go_sem] theorem live_49_19 : C.live 49 19 = some [] := by kernel_rfl
@[go_sem] theorem live_49_16 : C.live 49 16 = some [] := by kernel_rfl
@[go_sem] theorem live_49_14 : C.live 49 14 = some [] := by kernel_rfl
@[go_sem] theorem live_49_7 : C.live 49 7 = some [] := by kernel_rfl
@[go_sem] theorem live_49_5 : C.live 49 5 = some [] := by kernel_rfl
@[go_sem] theorem live_49_3 : C.live 49 3 = some [] := by kernel_rfl
@[go_sem] theorem live_49_26 : C.live 49 26 = some [] := by kernel_rfl
@[go_sem] theorem esc_50 : C.esc 50 = [] := by kernel_rfl
@[go_sem] theorem live_50_0 : C.live 50 0 = some [0] := by kernel_rfl
@[go_sem] theorem live_50_1 : C.live 50 1 = some [0] := by kernel_rfl
@[go_sem] theorem esc_51 : C.esc 51 = [4] := by kernel_rfl
@[go_sem] theorem live_51_0 : C.live 51 0 = some [0] := by kernel_rfl
@[go_sem] theorem live_51_1 : C.live 51 1 = some [0] := by kernel_rfl
@[go_sem] theorem live_51_2 : C.live 51 2 = some [] := by kernel_rfl
@[go_sem] theorem live_51_3 : C.live 51 3 = some [0] := by kernel_rfl
@[go_sem] theorem live_51_4 : C.live 51 4 = some [] := by kernel_rfl
@[go_sem] theorem live_51_5 : C.live 51 5 = some [0] := by kernel_rfl
@[go_sem] theorem live_51_6 : C.live 51 6 = some [4, 0] := by kernel_rfl
@[go_sem] theorem live_51_7 : C.live 51 7 = some [4, 0] := by kernel_rfl
@[go_sem] theorem live_51_8 : C.live 51 8 = some [15, 4, 0, 14] := by kernel_rfl
@[go_sem] theorem live_51_9 : C.live 51 9 = some [15, 4, 0, 14] := by kernel_rfl
@[go_sem] theorem live_51_10 : C.live 51 10 = some [5, 15, 4, 0, 14] := by kernel_rfl
@[go_sem] theorem live_51_11 : C.live 51 11 = some [5, 15, 4, 0, 14] := by kernel_rfl
@[go_sem] theorem live_51_12 : C.live 51 12 = some [5, 15, 4, 0, 14] := by kernel_rfl
@[go_sem] theorem live_51_13 : C.live 51 13 = some [15, 4, 0, 14] := by kernel_rfl
@[go_sem] theorem live_51_14 : C.live 51 14 = some [4] := by kernel_rfl
@[go_sem] theorem live_51_15 : C.live 51 15 = some [4] := by kernel_rfl
@[go_sem] theorem esc_52 : C.esc 52 = [] := by kernel_rfl
@[go_sem] theorem live_52_0 : C.live 52 0 = some [0, 1] := by kernel_rfl
@[go_sem] theorem live_52_1 : C.live 52 1 = some [1, 2] := by kernel_rfl
@[go_sem] theorem live_52_2 : C.live 52 2 = some [2] := by kernel_rfl
@[go_sem] theorem live_52_3 : C.live 52 3 = some [2] := by kernel_rfl
@[go_sem] theorem esc_53 : C.esc 53 = [] := by kernel_rfl
@[go_sem] theorem live_53_0 : C.live 53 0 = some [0] := by kernel_rfl
@[go_sem] theorem live_53_1 : C.live 53 1 = some [0] := by kernel_rfl
@[go_sem] theorem live_53_2 : C.live 53 2 = some [3] := by kernel_rfl
@[go_sem] theorem live_53_4 : C.live 53 4 = some [3] := by kernel_rfl
@[go_sem] theorem live_53_6 : C.live 53 6 = some [3] := by kernel_rfl
@[go_sem] theorem live_53_8 : C.live 53 8 = some [3] := by kernel_rfl
@[go_sem] theorem live_53_10 : C.live 53 10 = some [3] := by kernel_rfl
@[go_sem] theorem live_53_12 : C.live 53 12 = some [3] := by kernel_rfl
@[go_sem] theorem live_53_14 : C.live 53 14 = some [3] := by kernel_rfl
@[go_sem] theorem live_53_16 : C.live 53 16 = some [3] := by kernel_rfl
@[go_sem] theorem live_53_17 : C.live 53 17 = some [] := by kernel_rfl
@[go_sem] theorem live_53_15 : C.live 53 15 = some [] := by kernel_rfl
@[go_sem] theorem live_53_13 : C.live 53 13 = some [] := by kernel_rfl
@[go_sem] theorem live_53_11 : C.live 53 11 = some [] := by kernel_rfl
@[go_sem] theorem live_53_9 : C.live 53 9 = some [] := by kernel_rfl
@[go_sem] theorem live_53_7 : C.live 53 7 = some [] := by kernel_rfl
@[go_sem] theorem live_53_5 : C.live 53 5 = some [] := by kernel_rfl
@[go_sem] theorem live_53_3 : C.live 53 3 = some [] := by kernel_rfl
@[go_sem] theorem live_53_18 : C.live 53 18 = some [] := by kernel_rfl
@[go_sem] theorem esc_54 : C.esc 54 = [] := by kernel_rfl
@[go_sem] theorem live_54_0 : C.live 54 0 = some [0] := by kernel_rfl
@[go_sem] theorem live_54_1 : C.live 54 1 = some [0] := by kernel_rfl
@[go_sem] theorem live_54_2 : C.live 54 2 = some [3] := by kernel_rfl
@[go_sem] theorem live_54_4 : C.live 54 4 = some [3] := by kernel_rfl
@[go_sem] theorem live_54_6 : C.live 54 6 = some [3] := by kernel_rfl
@[go_sem] theorem live_54_8 : C.live 54 8 = some [3] := by kernel_rfl
@[go_sem] theorem live_54_10 : C.live 54 10 = some [3] := by kernel_rfl
@[go_sem] theorem live_54_12 : C.live 54 12 = some [3] := by kernel_rfl
@[go_sem] theorem live_54_14 : C.live 54 14 = some [3] := by kernel_rfl
@[go_sem] theorem live_54_16 : C.live 54 16 = some [3] := by kernel_rfl
@[go_sem] theorem live_54_18 : C.live 54 18 = some [3] := by kernel_rfl
@[go_sem] theorem live_54_20 : C.live 54 20 = some [3] := by kernel_rfl
@[go_sem] theorem live_54_22 : C.live 54 22 = some [3] := by kernel_rfl
@[go_sem] theorem live_54_24 : C.live 54 24 = some [3] := by kernel_rfl
@[go_sem] theorem live_54_26 : C.live 54 26 = some [3] := by kernel_rfl
@[go_sem] theorem live_54_27 : C.live 54 27 = some [] := by kernel_rfl
@[go_sem] theorem live_54_25 : C.live 54 25 = some [] := by kernel_rfl
@[go_sem] theorem live_54_23 : C.live 54 23 = some [] := by kernel_rfl
@[go_sem] theorem live_54_21 : C.live 54 21 = some [] := by kernel_rfl
@[go_sem] theorem live_54_19 : C.live 54 19 = some [] := by kernel_rfl
@[go_sem] theorem live_54_17 : C.live 54 17 = some [] := by kernel_rfl
@[go_sem] theorem live_54_15 : C.live 54 15 = some [] := by kernel_rfl
@[go_sem] theorem live_54_13 : C.live 54 13 = some [] := by kernel_rfl
@[go_sem] theorem live_54_11 : C.live 54 11 = some [] := by kernel_rfl
@[go_sem] theorem live_54_9 : C.live 54 9 = some [] := by kernel_rfl
@[go_sem] theorem live_54_7 : C.live 54 7 = some [] := by kernel_rfl
@[go_sem] theorem live_54_5 : C.live 54 5 = some [] := by kernel_rfl
@[go_sem] theorem live_54_3 : C.live 54 3 = some [] := by kernel_rfl
@[go_sem] theorem live_54_28 : C.live 54 28 = some [] := by kernel_rfl
@[go_sem] theorem esc_55 : C.esc 55 = [] := by kernel_rfl
@[go_sem] theorem live_55_0 : C.live 55 0 = some [0, 1] := by kernel_rfl
@[go_sem] theorem live_55_1 : C.live 55 1 = some [2, 1] := by kernel_rfl
@[go_sem] theorem live_55_2 : C.live 55 2 = some [2, 1, 5] := by kernel_rfl
@[go_sem] theorem live_55_3 : C.live 55 3 = some [5] := by kernel_rfl
@[go_sem] theorem live_55_4 : C.live 55 4 = some [1, 2] := by kernel_rfl
@[go_sem] theorem live_55_5 : C.live 55 5 = some [2, 1, 6] := by kernel_rfl
@[go_sem] theorem live_55_7 : C.live 55 7 = some [2, 1, 6] := by kernel_rfl
@[go_sem] theorem live_55_8 : C.live 55 8 = some [2, 1, 6, 7] := by kernel_rfl
@[go_sem] theorem live_55_9 : C.live 55 9 = some [7] := by kernel_rfl
@[go_sem] theorem live_55_6 : C.live 55 6 = some [6, 1, 2] := by kernel_rfl
@[go_sem] theorem live_55_10 : C.live 55 10 = some [] := by kernel_rfl
@[go_sem] theorem esc_56 : C.esc 56 = [] := by kernel_rfl
@[go_sem] theorem live_56_0 : C.live 56 0 = some [0] := by kernel_rfl
@[go_sem] theorem live_56_1 : C.live 56 1 = some [0] := by kernel_rfl
@[go_sem] theorem live_56_2 : C.live 56 2 = some [3] := by kernel_rfl
@[go_sem] theorem live_56_4 : C.live 56 4 = some [3] := by kernel_rfl
@[go_sem] theorem live_56_6 : C.live 56 6 = some [3] := by kernel_rfl
@[go_sem] theorem live_56_8 : C.live 56 8 = some [3] := by kernel_rfl
@[go_sem] theorem live_56_9 : C.live 56 9 = some [3] := by kernel_rfl
@[go_sem] theorem live_56_10 : C.live 56 10 = some [3] := by kernel_rfl
@[go_sem] theorem live_56_11 : C.live 56 11 = some [3] := by kernel_rfl
@[go_sem] theorem live_56_12 : C.live 56 12 = some [3] := by kernel_rfl
@[go_sem] theorem live_56_13 : C.live 56 13 = some [3] := by kernel_rfl
@[go_sem] theorem live_56_15 : C.live 56 15 = some [3] := by kernel_rfl
@[go_sem] theorem live_56_17 : C.live 56 17 = some [3] := by kernel_rfl
@[go_sem] theorem live_56_18 : C.live 56 18 = some [3] := by kernel_rfl
@[go_sem] theorem live_56_20 : C.live 56 20 = some [3] := by kernel_rfl
@[go_sem] theorem live_56_21 : C.live 56 21 = some [3] := by kernel_rfl
@[go_sem] theorem live_56_22 : C.live 56 22 = some [3] := by kernel_rfl
@[go_sem] theorem live_56_24 : C.live 56 24 = some [3] := by kernel_rfl
@[go_sem] theorem live_56_25 : C.live 56 25 = some [] := by kernel_rfl
@[go_sem] theorem live_56_23 : C.live 56 23 = some [] := by kernel_rfl
@[go_sem] theorem live_56_19 : C.live 56 19 = some [] := by kernel_rfl
@[go_sem] theorem live_56_16 : C.live 56 16 = some [] := by kernel_rfl
@[go_sem] theorem live_56_14 : C.live 56 14 = some [] := by kernel_rfl
@[go_sem] theorem live_56_7 : C.live 56 7 = some [] := by kernel_rfl
@[go_sem] theorem live_56_5 : C.live 56 5 = some [] := by kernel_rfl
@[go_sem] theorem live_56_3 : C.live 56 3 = some [] := by kernel_rfl
@[go_sem] theorem live_56_26 : C.live 56 26 = some [] := by kernel_rfl
@[go_sem] theorem esc_57 : C.esc 57 = [] := by kernel_rfl
@[go_sem] theorem live_57_0 : C.live 57 0 = some [0] := by kernel_rfl
@[go_sem] theorem live_57_1 : C.live 57 1 = some [0] := by kernel_rfl
@[go_sem] theorem live_57_2 : C.live 57 2 = some [3, 0] := by kernel_rfl
@[go_sem] theorem live_57_3 : C.live 57 3 = some [4, 3, 0] := by kernel_rfl
@[go_sem] theorem live_57_4 : C.live 57 4 = some [4, 3, 0] := by kernel_rfl
@[go_sem] theorem live_57_5 : C.live 57 5 = some [3, 4, 0] := by kernel_rfl
@[go_sem] theorem live_57_6 : C.live 57 6 = some [0, 4] := by kernel_rfl
@[go_sem] theorem live_57_7 : C.live 57 7 = some [4] := by kernel_rfl
@[go_sem] theorem live_57_8 : C.live 57 8 = some [4] := by kernel_rfl
@[go_sem] theorem esc_58 : C.esc 58 = [] := by kernel_rfl
@[go_sem] theorem live_58_0 : C.live 58 0 = some [0] := by kernel_rfl
@[go_sem] theorem live_58_1 : C.live 58 1 = some [0] := by kernel_rfl
@[go_sem] theorem live_58_2 : C.live 58 2 = some [] := by kernel_rfl
@[go_sem] theorem live_58_3 : C.live 58 3 = some [0] := by kernel_rfl
@[go_sem] theorem live_58_4 : C.live 58 4 = some [] := by kernel_rfl
@[go_sem] theorem live_58_5 : C.live 58 5 = some [0] := by kernel_rfl
@[go_sem] theorem live_58_6 : C.live 58 6 = some [0, 4] := by kernel_rfl
@[go_sem] theorem live_58_7 : C.live 58 7 = some [4, 5, 0] := by kernel_rfl
@[go_sem] theorem live_58_9 : C.live 58 9 = some [4, 5, 0] := by kernel_rfl
@[go_sem] theorem live_58_10 : C.live 58 10 = some [4, 5, 0] := by kernel_rfl
@[go_sem] theorem live_58_11 : C.live 58 11 = some [4, 5, 0] := by kernel_rfl
@[go_sem] theorem live_58_8 : C.live 58 8 = some [5, 0, 4] := by kernel_rfl
@[go_sem] theorem live_58_12 : C.live 58 12 = some [4] := by kernel_rfl
@[go_sem] theorem esc_59 : C.esc 59 = [] := by kernel_rfl
@[go_sem] theorem live_59_0 : C.live 59 0 = some [0, 1] := by kernel_rfl
@[go_sem] theorem live_59_1 : C.live 59 1 = some [1, 2] := by kernel_rfl
@[go_sem] theorem live_59_2 : C.live 59 2 = some [2] := by kernel_rfl
@[go_sem] theorem live_59_3 : C.live 59 3 = some [2] := by kernel_rfl
@[go_sem] theorem esc_60 : C.esc 60 = [] := by kernel_rfl
@[go_sem] theorem live_60_0 : C.live 60 0 = some [0] := by kernel_rfl
@[go_sem] theorem live_60_1 : C.live 60 1 = some [0] := by kernel_rfl
@[go_sem] theorem live_60_2 : C.live 60 2 = some [3] := by kernel_rfl
@[go_sem] theorem live_60_4 : C.live 60 4 = some [3] := by kernel_rfl
@[go_sem] theorem live_60_6 : C.live 60 6 = some [3] := by kernel_rfl
@[go_sem] theorem live_60_8 : C.live 60 8 = some [3] := by kernel_rfl
@[go_sem] theorem live_60_10 : C.live 60 10 = some [3] := by kernel_rfl
@[go_sem] theorem live_60_12 : C.live 60 12 = some [3] := by kernel_rfl
@[go_sem] theorem live_60_14 : C.live 60 14 = some [3] := by kernel_rfl
@[go_sem] theorem live_60_15 : C.live 60 15 = some [] := by kernel_rfl
@[go_sem] theorem live_60_13 : C.live 60 13 = some [] := by kernel_rfl
@[go_sem] theorem live_60_11 : C.live 60 11 = some [] := by kernel_rfl
@[go_sem] theorem live_60_9 : C.live 60 9 = some [] := by kernel_rfl
@[go_sem] theorem live_60_7 : C.live 60 7 = some [] := by kernel_rfl
@[go_sem] theorem live_60_5 : C.live 60 5 = some [] := by kernel_rfl
@[go_sem] theorem live_60_3 : C.live 60 3 = some [] := by kernel_rfl
@[go_sem] theorem live_60_16 : C.live 60 16 = some [] := by kernel_rfl
@[go_sem] theorem esc_61 : C.esc 61 = [] := by kernel_rfl
@[go_sem] theorem live_61_0 : C.live 61 0 = some [0] := by kernel_rfl
@[go_sem] theorem live_61_1 : C.live 61 1 = some [0] := by kernel_rfl
@[go_sem] theorem live_61_2 : C.live 61 2 = some [3] := by kernel_rfl
@[go_sem] theorem live_61_4 : C.live 61 4 = some [3] := by kernel_rfl
@[go_sem] theorem live_61_6 : C.live 61 6 = some [3] := by kernel_rfl
@[go_sem] theorem live_61_8 : C.live 61 8 = some [3] := by kernel_rfl
@[go_sem] theorem live_61_10 : C.live 61 10 = some [3] := by kernel_rfl
@[go_sem] theorem live_61_12 : C.live 61 12 = some [3] := by kernel_rfl
@[go_sem] theorem live_61_14 : C.live 61 14 = some [3] := by kernel_rfl
@[go_sem] theorem live_61_16 : C.live 61 16 = some [3] := by kernel_rfl
@[go_sem] theorem live_61_18 : C.live 61 18 = some [3] := by kernel_rfl
@[go_sem] theorem live_61_20 : C.live 61 20 = some [3] := by kernel_rfl
@[go_sem] theorem live_61_22 : C.live 61 22 = some [3] := by kernel_rfl
@[go_sem] theorem live_61_24 : C.live 61 24 = some [3] := by kernel_rfl
@[go_sem] theorem live_61_26 : C.live 61 26 = some [3] := by kernel_rfl
@[go_sem] theorem live_61_27 : C.live 61 27 = some [] := by kernel_rfl
@[go_sem] theorem live_61_25 : C.live 61 25 = some [] := by kernel_rfl
@[go_sem] theorem live_61_23 : C.live 61 23 = some [] := by kernel_rfl
@[go_sem] theorem live_61_21 : C.live 61 21 = some [] := by kernel_rfl
@[go_sem] theorem live_61_19 : C.live 61 19 = some [] := by kernel_rfl
@[go_sem] theorem live_61_17 : C.live 61 17 = some [] := by kernel_rfl
@[go_sem] theorem live_61_15 : C.live 61 15 = some [] := by kernel_rfl
@[go_sem] theorem live_61_13 : C.live 61 13 = some [] := by kernel_rfl
@[go_sem] theorem live_61_11 : C.live 61 11 = some [] := by kernel_rfl
@[go_sem] theorem live_61_9 : C.live 61 9 = some [] := by kernel_rfl
@[go_sem] theorem live_61_7 : C.live 61 7 = some [] := by kernel_rfl
@[go_sem] theorem live_61_5 : C.live 61 5 = some [] := by kernel_rfl
@[go_sem] theorem live_61_3 : C.live 61 3 = some [] := by kernel_rfl
@[go_sem] theorem live_61_28 : C.live 61 28 = some [] := by kernel_rfl
@[go_sem] theorem esc_62 : C.esc 62 = [] := by kernel_rfl
@[go_sem] theorem live_62_0 : C.live 62 0 = some [0, 1] := by kernel_rfl
@[go_sem] theorem live_62_1 : C.live 62 1 = some [0, 1] := by kernel_rfl
@[go_sem] theorem live_62_2 : C.live 62 2 = some [7, 1, 0, 8] := by kernel_rfl
@[go_sem] theorem live_62_3 : C.live 62 3 = some [7, 1, 0, 8] := by kernel_rfl
@[go_sem] theorem live_62_4 : C.live 62 4 = some [7, 1, 0, 8, 5] := by kernel_rfl
@[go_sem] theorem live_62_5 : C.live 62 5 = some [5] := by kernel_rfl
@[go_sem] theorem live_62_6 : C.live 62 6 = some [8, 0, 1, 7] := by kernel_rfl
@[go_sem] theorem live_62_7 : C.live 62 7 = some [] := by kernel_rfl
@[go_sem] theorem esc_63 : C.esc 63 = [] := by kernel_rfl
@[go_sem] theorem live_63_0 : C.live 63 0 = some [1, 0] := by kernel_rfl
@[go_sem] theorem live_63_1 : C.live 63 1 = some [3, 0] := by kernel_rfl
@[go_sem] theorem live_63_2 : C.live 63 2 = some [0, 3] := by kernel_rfl
@[go_sem] theorem live_63_3 : C.live 63 3 = some [0, 3] := by kernel_rfl
@[go_sem] theorem esc_64 : C.esc 64 = [] := by kernel_rfl
@[go_sem] theorem live_64_0 : C.live 64 0 = some [0] := by kernel_rfl
@[go_sem] theorem live_64_1 : C.live 64 1 = some [1] := by kernel_rfl
@[go_sem] theorem esc_65 : C.esc 65 = [] := by kernel_rfl
@[go_sem] theorem live_65_0 : C.live 65 0 = some [0] := by kernel_rfl
@[go_sem] theorem live_65_2 : C.live 65 2 = some [0] := by kernel_rfl
@[go_sem] theorem live_65_1 : C.live 65 1 = some [0] := by kernel_rfl
@[go_sem] theorem esc_66 : C.esc 66 = [] := by kernel_rfl
@[go_sem] theorem live_66_0 : C.live 66 0 = some [1, 0] := by kernel_rfl
@[go_sem] theorem live_66_1 : C.live 66 1 = some [0, 4] := by kernel_rfl
@[go_sem] theorem live_66_2 : C.live 66 2 = some [0, 4] := by kernel_rfl
@[go_sem] theorem esc_67 : C.esc 67 = [] := by kernel_rfl
@[go_sem] theorem live_67_0 : C.live 67 0 = some [1, 0] := by kernel_rfl
@[go_sem] theorem live_67_1 : C.live 67 1 = some [0, 3] := by kernel_rfl
@[go_sem] theorem esc_68 : C.esc 68 = [] := by kernel_rfl
@[go_sem] theorem live_68_0 : C.live 68 0 = some [1, 0] := by kernel_rfl
@[go_sem] theorem live_68_1 : C.live 68 1 = some [0, 3] := by kernel_rfl
@[go_sem] theorem esc_69 : C.esc 69 = [] := by kernel_rfl
@[go_sem] theorem live_69_0 : C.live 69 0 = some [1, 0] := by kernel_rfl
@[go_sem] theorem live_69_1 : C.live 69 1 = some [0, 3] := by kernel_rfl
@[go_sem] theorem esc_70 : C.esc 70 = [] := by kernel_rfl
@[go_sem] theorem live_70_0 : C.live 70 0 = some [1, 0] := by kernel_rfl
@[go_sem] theorem live_70_1 : C.live 70 1 = some [0, 3] := by kernel_rfl
@[go_sem] theorem esc_71 : C.esc 71 = [] := by kernel_rfl
@[go_sem] theorem live_71_0 : C.live 71 0 = some [1, 0] := by kernel_rfl
@[go_sem] theorem live_71_1 : C.live 71 1 = some [3, 0] := by kernel_rfl
@[go_sem] theorem live_71_2 : C.live 71 2 = some [3, 0] := by kernel_rfl
@[go_sem] theorem live_71_3 : C.live 71 3 = some [3, 0] := by kernel_rfl
@[go_sem] theorem live_71_4 : C.live 71 4 = some [3, 0] := by kernel_rfl
@[go_sem] theorem live_71_5 : C.live 71 5 = some [3, 0] := by kernel_rfl
@[go_sem] theorem live_71_6 : C.live 71 6 = some [0] := by kernel_rfl
@[go_sem] theorem esc_72 : C.esc 72 = [] := by kernel_rfl
@[go_sem] theorem live_72_0 : C.live 72 0 = some [1, 0] := by kernel_rfl
@[go_sem] theorem live_72_1 : C.live 72 1 = some [3, 0] := by kernel_rfl
@[go_sem] theorem live_72_2 : C.live 72 2 = some [3, 0] := by kernel_rfl
@[go_sem] theorem live_72_3 : C.live 72 3 = some [0] := by kernel_rfl
@[go_sem] theorem esc_73 : C.esc 73 = [] := by kernel_rfl
@[go_sem] theorem live_73_0 : C.live 73 0 = some [1, 0] := by kernel_rfl
@[go_sem] theorem live_73_1 : C.live 73 1 = some [0, 3] := by kernel_rfl
@[go_sem] theorem esc_74 : C.esc 74 = [] := by kernel_rfl
@[go_sem] theorem live_74_0 : C.live 74 0 = some [1, 0] := by kernel_rfl
@[go_sem] theorem live_74_1 : C.live 74 1 = some [0, 3] := by kernel_rfl
@[go_sem] theorem esc_75 : C.esc 75 = [] := by kernel_rfl
@[go_sem] theorem live_75_0 : C.live 75 0 = some [0] := by kernel_rfl
@[go_sem] theorem live_75_1 : C.live 75 1 = some [0] := by kernel_rfl
@[go_sem] theorem live_75_3 : C.live 75 3 = some [0] := by kernel_rfl
@[go_sem] theorem live_75_5 : C.live 75 5 = some [0] := by kernel_rfl
@[go_sem] theorem live_75_6 : C.live 75 6 = some [] := by kernel_rfl
@[go_sem] theorem live_75_4 : C.live 75 4 = some [] := by kernel_rfl
@[go_sem] theorem live_75_2 : C.live 75 2 = some [] := by kernel_rfl
@[go_sem] theorem live_75_7 : C.live 75 7 = some [] := by kernel_rfl
@[go_sem] theorem esc_76 : C.esc 76 = [] := by kernel_rfl
@[go_sem] theorem live_76_0 : C.live 76 0 = some [0] := by kernel_rfl
@[go_sem] theorem live_76_1 : C.live 76 1 = some [0] := by kernel_rfl
@[go_sem] theorem live_76_2 : C.live 76 2 = some [0, 3] := by kernel_rfl
@[go_sem] theorem live_76_4 : C.live 76 4 = some [0, 3] := by kernel_rfl
@[go_sem] theorem live_76_5 : C.live 76 5 = some [] := by kernel_rfl
@[go_sem] theorem live_76_3 : C.live 76 3 = some [3, 0] := by kernel_rfl
@[go_sem] theorem live_76_6 : C.live 76 6 = some [0] := by kernel_rfl
@[go_sem] theorem esc_77 : C.esc 77 = [] := by kernel_rfl
@[go_sem] theorem live_77_0 : C.live 77 0 = some [0, 1] := by kernel_rfl
@[go_sem] theorem live_77_1 : C.live 77 1 = some [0, 1] := by kernel_rfl
@[go_sem] theorem esc_78 : C.esc 78 = [] := by kernel_rfl
@[go_sem] theorem live_78_0 : C.live 78 0 = some [0] := by kernel_rfl
@[go_sem] theorem live_78_1 : C.live 78 1 = some [0] := by kernel_rfl
@[go_sem] theorem live_78_2 : C.live 78 2 = some [5, 0, 6] := by kernel_rfl
@[go_sem] theorem live_78_3 : C.live 78 3 = some [5, 0, 6] := by kernel_rfl
@[go_sem] theorem live_78_4 : C.live 78 4 = some [3, 5, 0, 6] := by kernel_rfl
@[go_sem] theorem live_78_5 : C.live 78 5 = some [] := by kernel_rfl
@[go_sem] theorem live_78_6 : C.live 78 6 = some [6, 0, 5] := by kernel_rfl
@[go_sem] theorem live_78_7 : C.live 78 7 = some [] := by kernel_rfl
@[go_sem] theorem esc_79 : C.esc 79 = [] := by kernel_rfl
@[go_sem] theorem live_79_0 : C.live 79 0 = some [0, 1] := by kernel_rfl
@[go_sem] theorem live_79_1 : C.live 79 1 = some [2, 1] := by kernel_rfl
@[go_sem] theorem live_79_2 : C.live 79 2 = some [] := by kernel_rfl
@[go_sem] theorem live_79_3 : C.live 79 3 = some [1, 2] := by kernel_rfl
@[go_sem] theorem live_79_4 : C.live 79 4 = some [] := by kernel_rfl
@[go_sem] theorem live_79_5 : C.live 79 5 = some [2, 1] := by kernel_rfl
@[go_sem] theorem live_79_6 : C.live 79 6 = some [] := by kernel_rfl
@[go_sem] theorem live_79_7 : C.live 79 7 = some [1] := by kernel_rfl
@[go_sem] theorem live_79_8 : C.live 79 8 = some [] := by kernel_rfl
@[go_sem] theorem live_79_9 : C.live 79 9 = some [] := by kernel_rfl
@[go_sem] theorem esc_80 : C.esc 80 = [] := by kernel_rfl
@[go_sem] theorem live_80_0 : C.live 80 0 = some [0] := by kernel_rfl
@[go_sem] theorem live_80_1 : C.live 80 1 = some [0] := by kernel_rfl
@[go_sem] theorem live_80_2 : C.live 80 2 = some [0] := by kernel_rfl
@[go_sem] theorem live_80_3 : C.live 80 3 = some [0] := by kernel_rfl
@[go_sem] theorem esc_81 : C.esc 81 = [] := by kernel_rfl
@[go_sem] theorem live_81_0 : C.live 81 0 = some [0] := by kernel_rfl
@[go_sem] theorem live_81_1 : C.live 81 1 = some [0] := by kernel_rfl
@[go_sem] theorem live_81_2 : C.live 81 2 = some [0, 3] := by kernel_rfl
@[go_sem] theorem live_81_4 : C.live 81 4 = some [0, 3] := by kernel_rfl
@[go_sem] theorem live_81_5 : C.live 81 5 = some [] := by kernel_rfl
@[go_sem] theorem live_81_3 : C.live 81 3 = some [3, 0] := by kernel_rfl
@[go_sem] theorem live_81_6 : C.live 81 6 = some [] := by kernel_rfl
@[go_sem] theorem esc_82 : C.esc 82 = [] := by kernel_rfl
@[go_sem] theorem live_82_0 : C.live 82 0 = some [1, 0] := by kernel_rfl
@[go_sem] theorem live_82_1 : C.live 82 1 = some [0, 3] := by kernel_rfl
@[go_sem] theorem live_82_2 : C.live 82 2 = some [3, 0] := by kernel_rfl
@[go_sem] theorem live_82_3 : C.live 82 3 = some [3, 0] := by kernel_rfl
@[go_sem] theorem live_82_4 : C.live 82 4 = some [21, 0, 19, 20] := by kernel_rfl
@[go_sem] theorem live_82_5 : C.live 82 5 = some [21, 0, 19, 20] := by kernel_rfl
@[go_sem] theorem live_82_6 : C.live 82 6 = some [5, 21, 0, 19, 20] := by kernel_rfl
@[go_sem] theorem live_82_7 : C.live 82 7 = some [21, 0, 19, 20] := by kernel_rfl
@[go_sem] theorem esc_85 : C.esc 85 = [5] := by kernel_rfl
@[go_sem] theorem live_85_0 : C.live 85 0 = some [1, 0] := by kernel_rfl
@[go_sem] theorem live_85_1 : C.live 85 1 = some [1, 0] := by kernel_rfl
@[go_sem] theorem live_85_2 : C.live 85 2 = some [0] := by kernel_rfl
@[go_sem] theorem live_85_3 : C.live 85 3 = some [0] := by kernel_rfl
@[go_sem] theorem live_85_4 : C.live 85 4 = some [0] := by kernel_rfl
@[go_sem] theorem live_85_5 : C.live 85 5 = some [0, 5] := by kernel_rfl
@[go_sem] theorem live_85_6 : C.live 85 6 = some [6, 0, 5] := by kernel_rfl
@[go_sem] theorem live_85_7 : C.live 85 7 = some [6, 0, 5] := by kernel_rfl
@[go_sem] theorem live_85_8 : C.live 85 8 = some [6, 0, 5] := by kernel_rfl
@[go_sem] theorem live_85_9 : C.live 85 9 = some [6, 0, 7, 5] := by kernel_rfl
@[go_sem] theorem live_85_10 : C.live 85 10 = some [0, 7, 5] := by kernel_rfl
@[go_sem] theorem live_85_11 : C.live 85 11 = some [7, 5] := by kernel_rfl
@[go_sem] theorem live_85_12 : C.live 85 12 = some [7, 5] := by kernel_rfl
@[go_sem] theorem live_85_13 : C.live 85 13 = some [7, 5] := by kernel_rfl
@[go_sem] theorem live_85_14 : C.live 85 14 = some [1, 0] := by kernel_rfl
@[go_sem] theorem live_85_15 : C.live 85 15 = some [9] := by kernel_rfl
@[go_sem] theorem esc_86 : C.esc 86 = [] := by kernel_rfl
@[go_sem] theorem live_86_0 : C.live 86 0 = some [0] := by kernel_rfl
@[go_sem] theorem live_86_1 : C.live 86 1 = some [0] := by kernel_rfl
@[go_sem] theorem live_86_2 : C.live 86 2 = some [0, 3] := by kernel_rfl
@[go_sem] theorem live_86_3 : C.live 86 3 = some [0, 3] := by kernel_rfl
@[go_sem] theorem live_86_4 : C.live 86 4 = some [0, 3] := by kernel_rfl
@[go_sem] theorem live_86_5 : C.live 86 5 = some [0, 3] := by kernel_rfl
@[go_sem] theorem live_86_6 : C.live 86 6 = some [0, 3] := by kernel_rfl
@[go_sem] theorem live_86_7 : C.live 86 7 = some [0, 3] := by kernel_rfl
@[go_sem] theorem live_86_9 : C.live 86 9 = some [3, 0] := by kernel_rfl
@[go_sem] theorem live_86_10 : C.live 86 10 = some [3, 0] := by kernel_rfl
@[go_sem] theorem live_86_11 : C.live 86 11 = some [3, 0] := by kernel_rfl
@[go_sem] theorem live_86_12 : C.live 86 12 = some [3, 0] := by kernel_rfl
@[go_sem] theorem live_86_13 : C.live 86 13 = some [3, 0] := by kernel_rfl
@[go_sem] theorem live_86_14 : C.live 86 14 = some [3, 0] := by kernel_rfl
@[go_sem] theorem live_86_15 : C.live 86 15 = some [3, 0] := by kernel_rfl
@[go_sem] theorem live_86_16 : C.live 86 16 = some [] := by kernel_rfl
@[go_sem] theorem live_86_8 : C.live 86 8 = some [] := by kernel_rfl
@[go_sem] theorem live_86_17 : C.live 86 17 = some [0] := by kernel_rfl
@[go_sem] theorem live_86_18 : C.live 86 18 = some [] := by kernel_rfl
@[go_sem] theorem live_86_19 : C.live 86 19 = some [] := by kernel_rfl
@[go_sem] theorem esc_87 : C.esc 87 = [] := by kernel_rfl
@[go_sem] theorem live_87_0 : C.live 87 0 = some [0] := by kernel_rfl
@[go_sem] theorem live_87_1 : C.live 87 1 = some [0] := by kernel_rfl
@[go_sem] theorem esc_88 : C.esc 88 = [] := by kernel_rfl
@[go_sem] theorem live_88_0 : C.live 88 0 = some [0] := by kernel_rfl
@[go_sem] theorem live_88_1 : C.live 88 1 = some [0] := by kernel_rfl
@[go_sem] theorem live_88_2 : C.live 88 2 = some [] := by kernel_rfl
@[go_sem] theorem live_88_3 : C.live 88 3 = some [0] := by kernel_rfl
@[go_sem] theorem live_88_4 : C.live 88 4 = some [0, 3] := by kernel_rfl
@[go_sem] theorem live_88_6 : C.live 88 6 = some [0, 3] := by kernel_rfl
@[go_sem] theorem live_88_7 : C.live 88 7 = some [] := by kernel_rfl
@[go_sem] theorem live_88_5 : C.live 88 5 = some [3, 0] := by kernel_rfl
@[go_sem] theorem live_88_8 : C.live 88 8 = some [] := by kernel_rfl
@[go_sem] theorem esc_89 : C.esc 89 = [] := by kernel_rfl
@[go_sem] theorem live_89_0 : C.live 89 0 = some [0] := by kernel_rfl
@[go_sem] theorem live_89_1 : C.live 89 1 = some [0] := by kernel_rfl
@[go_sem] theorem live_89_2 : C.live 89 2 = some [0] := by kernel_rfl
@[go_sem] theorem live_89_3 : C.live 89 3 = some [0] := by kernel_rfl
@[go_sem] theorem esc_90 : C.esc 90 = [] := by kernel_rfl
@[go_sem] theorem live_90_0 : C.live 90 0 = some [0] := by kernel_rfl
@[go_sem] theorem live_90_1 : C.live 90 1 = some [0] := by kernel_rfl
@[go_sem] theorem live_90_2 : C.live 90 2 = some [0, 3] := by kernel_rfl
@[go_sem] theorem esc_91 : C.esc 91 = [] := by kernel_rfl
@[go_sem] theorem live_91_0 : C.live 91 0 = some [0, 1] := by kernel_rfl
@[go_sem] theorem live_91_1 : C.live 91 1 = some [1, 4, 0] := by kernel_rfl
@[go_sem] theorem live_91_2 : C.live 91 2 = some [1, 4, 0] := by kernel_rfl
@[go_sem] theorem live_91_3 : C.live 91 3 = some [1, 5, 4, 0] := by kernel_rfl
@[go_sem] theorem live_91_4 : C.live 91 4 = some [5, 4, 0, 1] := by kernel_rfl
@[go_sem] theorem live_91_5 : C.live 91 5 = some [7, 6, 4, 0, 1] := by kernel_rfl
@[go_sem] theorem live_91_6 : C.live 91 6 = some [6, 9, 8, 4, 0, 1] := by kernel_rfl
@[go_sem] theorem live_91_7 : C.live 91 7 = some [9, 8, 11, 10, 4, 0, 1] := by kernel_rfl
@[go_sem] theorem live_91_8 : C.live 91 8 = some [8, 11, 10, 4, 0, 1] := by kernel_rfl
@[go_sem] theorem live_91_9 : C.live 91 9 = some [11, 10, 4, 0, 1] := by kernel_rfl
@[go_sem] theorem live_91_10 : C.live 91 10 = some [10, 4, 0, 1] := by kernel_rfl
@[go_sem] theorem live_91_11 : C.live 91 11 = some [4, 0, 1] := by kernel_rfl
@[go_sem] theorem live_91_12 : C.live 91 12 = some [1, 4, 0] := by kernel_rfl
@[go_sem] theorem live_91_13 : C.live 91 13 = some [12, 4, 0] := by kernel_rfl
@[go_sem] theorem live_91_14 : C.live 91 14 = some [12, 4, 0] := by kernel_rfl
@[go_sem] theorem live_91_15 : C.live 91 15 = some [12, 13, 4, 0] := by kernel_rfl
@[go_sem] theorem live_91_16 : C.live 91 16 = some [13, 4, 12, 0] := by kernel_rfl
@[go_sem] theorem live_91_17 : C.live 91 17 = some [15, 14, 4, 12, 0] := by kernel_rfl
@[go_sem] theorem live_91_18 : C.live 91 18 = some [14, 4, 12, 0] := by kernel_rfl
@[go_sem] theorem live_91_19 : C.live 91 19 = some [4, 12, 0] := by kernel_rfl
@[go_sem] theorem live_91_20 : C.live 91 20 = some [12, 4, 0] := by kernel_rfl
@[go_sem] theorem live_91_21 : C.live 91 21 = some [12, 4, 0] := by kernel_rfl
@[go_sem] theorem live_91_22 : C.live 91 22 = some [12, 16, 4, 0] := by kernel_rfl
@[go_sem] theorem live_91_23 : C.live 91 23 = some [16, 4, 0, 12] := by kernel_rfl
@[go_sem] theorem live_91_24 : C.live 91 24 = some [4, 0, 12] := by kernel_rfl
@[go_sem] theorem live_91_25 : C.live 91 25 = some [4, 0, 12] := by kernel_rfl
@[go_sem] theorem live_91_26 : C.live 91 26 = some [0, 12] := by kernel_rfl
@[go_sem] theorem esc_92 : C.esc 92 = [12] := by kernel_rfl
@[go_sem] theorem live_92_0 : C.live 92 0 = some [1, 2, 3, 4, 0] := by kernel_rfl
@[go_sem] theorem live_92_1 : C.live 92 1 = some [1, 2, 3, 4, 10, 0, 11] := by kernel_rfl
@[go_sem] theorem live_92_2 : C.live 92 2 = some [1, 2, 3, 4, 10, 0, 11] := by kernel_rfl
@[go_sem] theorem live_92_3 : C.live 92 3 = some [1, 2, 3, 4, 10, 0, 11] := by kernel_rfl
@[go_sem] theorem live_92_4 : C.live 92 4 = some [1, 2, 12, 3, 4, 10, 0, 11] := by kernel_rfl
@[go_sem] theorem live_92_5 : C.live 92 5 = some [1, 2, 12, 13, 3, 4, 10, 0, 11] := by kernel_rfl
@[go_sem] theorem live_92_6 : C.live 92 6 = some [1, 2, 12, 13, 3, 4, 10, 0, 11] := by kernel_rfl
@[go_sem] theorem live_92_7 : C.live 92 7 = some [2, 1, 12, 13, 3, 4, 10, 0, 11] := by kernel_rfl
@[go_sem] theorem live_92_17 : C.live 92 17 = some [2, 12, 1, 13, 3, 4, 10, 0, 11] := by kernel_rfl
@[go_sem] theorem live_92_18 : C.live 92 18 = some [13, 1, 12, 17, 3, 4, 10, 0, 11] := by kernel_rfl
@[go_sem] theorem live_92_19 : C.live 92 19 = some [13, 1, 12, 17, 3, 4, 10, 0, 11] := by kernel_rfl
@[go_sem] theorem live_92_20 : C.live 92 20 = some [1, 12, 17, 13, 3, 4, 10, 0, 11] := by kernel_rfl
@[go_sem] theorem live_92_21 : C.live 92 21 = some [1, 18, 12, 17, 13, 3, 4, 10, 0, 11] := by kernel_rfl
@[go_sem] theorem live_92_22 : C.live 92 22 = some [18, 12, 17, 13, 3, 4, 10, 0, 11] := by kernel_rfl
@[go_sem] theorem live_92_23 : C.live 92 23 = some [13, 1, 3, 4, 10, 0, 12, 11] := by kernel_rfl
@[go_sem] theorem live_92_24 : C.live 92 24 = some [1, 3, 13, 4, 10, 0, 12, 11] := by kernel_rfl
@[go_sem] theorem live_92_8 : C.live 92 8 = some [2, 1, 12, 13, 3, 4, 10, 0, 11] := by kernel_rfl
@[go_sem] theorem live_92_9 : C.live 92 9 = some [2, 14, 1, 12, 13, 3, 4, 10, 0, 11] := by kernel_rfl
@[go_sem] theorem live_92_10 : C.live 92 10 = some [2, 14, 1, 12, 13, 3, 4, 10, 0, 11, 15] := by kernel_rfl
@[go_sem] theorem live_92_11 : C.live 92 11 = some [13, 1, 14, 12, 16, 3, 4, 10, 0, 11, 15] := by kernel_rfl
@[go_sem] theorem live_92_12 : C.live 92 12 = some [13, 1, 14, 12, 16, 3, 4, 10, 0, 11, 15] := by kernel_rfl
@[go_sem] theorem live_92_13 : C.live 92 13 = some [1, 14, 12, 16, 13, 3, 4, 10, 0, 11, 15] := by kernel_rfl
@[go_sem] theorem live_92_14 : C.live 92 14 = some [1, 14, 12, 16, 13, 3, 4, 10, 0, 11, 15] := by kernel_rfl
@[go_sem] theorem live_92_15 : C.live 92 15 = some [13, 1, 3, 4, 10, 0, 12, 11] := by kernel_rfl
@[go_sem] theorem live_92_16 : C.live 92 16 = some [1, 3, 13, 4, 10, 0, 12, 11] := by kernel_rfl
@[go_sem] theorem live_92_25 : C.live 92 25 = some [3, 13, 4, 10, 0, 12, 11] := by kernel_rfl
@[go_sem] theorem live_92_26 : C.live 92 26 = some [13, 4, 10, 0, 12, 11] := by kernel_rfl
@[go_sem] theorem live_92_27 : C.live 92 27 = some [4, 10, 0, 13, 12, 11] := by kernel_rfl
@[go_sem] theorem live_92_28 : C.live 92 28 = some [4, 10, 0, 13, 12, 11] := by kernel_rfl
@[go_sem] theorem live_92_29 : C.live 92 29 = some [0, 13, 12, 11] := by kernel_rfl
@[go_sem] theorem live_92_30 : C.live 92 30 = some [13, 12, 10] := by kernel_rfl
@[go_sem] theorem esc_93 : C.esc 93 = [] := by kernel_rfl
@[go_sem] theorem live_93_0 : C.live 93 0 = some [0] := by kernel_rfl
@[go_sem] theorem live_93_1 : C.live 93 1 = some [0] := by kernel_rfl
@[go_sem] theorem esc_94 : C.esc 94 = [] := by kernel_rfl
@[go_sem] theorem live_94_0 : C.live 94 0 = some [1, 0] := by kernel_rfl
@[go_sem] theorem live_94_1 : C.live 94 1 = some [1, 0] := by kernel_rfl
@[go_sem] theorem live_94_2 : C.live 94 2 = some [1, 0] := by kernel_rfl
@[go_sem] theorem live_94_3 : C.live 94 3 = some [1] := by kernel_rfl
@[go_sem] theorem esc_95 : C.esc 95 = [] := by kernel_rfl
@[go_sem] theorem live_95_0 : C.live 95 0 = some [0] := by kernel_rfl
@[go_sem] theorem live_95_1 : C.live 95 1 = some [0] := by kernel_rfl
@[go_sem] theorem esc_96 : C.esc 96 = [] := by kernel_rfl
@[go_sem] theorem live_96_0 : C.live 96 0 = some [0] := by kernel_rfl
@[go_sem] theorem live_96_1 : C.live 96 1 = some [0] := by kernel_rfl
@[go_sem] theorem esc_97 : C.esc 97 = [] := by kernel_rfl
@[go_sem] theorem live_97_0 : C.live 97 0 = some [0] := by kernel_rfl
@[go_sem] theorem live_97_1 : C.live 97 1 = some [2, 0] := by kernel_rfl
@[go_sem] theorem live_97_2 : C.live 97 2 = some [0] := by kernel_rfl
@[go_sem] theorem live_97_3 : C.live 97 3 = some [0] := by kernel_rfl
@[go_sem] theorem live_97_4 : C.live 97 4 = some [0, 2] := by kernel_rfl
@[go_sem] theorem live_97_5 : C.live 97 5 = some [0, 2] := by kernel_rfl
@[go_sem] theorem live_97_6 : C.live 97 6 = some [2, 0] := by kernel_rfl
@[go_sem] theorem live_97_7 : C.live 97 7 = some [0, 2] := by kernel_rfl
@[go_sem] theorem live_97_8 : C.live 97 8 = some [0, 2] := by kernel_rfl
@[go_sem] theorem live_97_9 : C.live 97 9 = some [2, 0] := by kernel_rfl
@[go_sem] theorem live_97_10 : C.live 97 10 = some [2, 0] := by kernel_rfl
@[go_sem] theorem esc_98 : C.esc 98 = [] := by kernel_rfl
@[go_sem] theorem live_98_0 : C.live 98 0 = some [0] := by kernel_rfl
@[go_sem] theorem live_98_1 : C.live 98 1 = some [0] := by kernel_rfl
@[go_sem] theorem live_98_2 : C.live 98 2 = some [] := by kernel_rfl
@[go_sem] theorem live_98_3 : C.live 98 3 = some [] := by kernel_rfl
@[go_sem] theorem esc_99 : C.esc 99 = [] := by kernel_rfl
@[go_sem] theorem live_99_0 : C.live 99 0 = some [0] := by kernel_rfl
@[go_sem] theorem live_99_1 : C.live 99 1 = some [0] := by kernel_rfl
@[go_sem] theorem esc_100 : C.esc 100 = [] := by kernel_rfl
@[go_sem] theorem live_100_0 : C.live 100 0 = some [0] := by kernel_rfl
@[go_sem] theorem live_100_1 : C.live 100 1 = some [0] := by kernel_rfl
@[go_sem] theorem live_100_2 : C.live 100 2 = some [0] := by kernel_rfl
@[go_sem] theorem esc_101 : C.esc 101 = [] := by kernel_rfl
@[go_sem] theorem live_101_0 : C.live 101 0 = some [0] := by kernel_rfl
@[go_sem] theorem live_101_1 : C.live 101 1 = some [0] := by kernel_rfl
@[go_sem] theorem esc_102 : C.esc 102 = [] := by kernel_rfl
@[go_sem] theorem live_102_0 : C.live 102 0 = some [1, 0] := by kernel_rfl
@[go_sem] theorem live_102_1 : C.live 102 1 = some [1, 0] := by kernel_rfl
@[go_sem] theorem live_102_2 : C.live 102 2 = some [0, 1, 5] := by kernel_rfl
@[go_sem] theorem live_102_4 : C.live 102 4 = some [0, 1, 5] := by kernel_rfl
@[go_sem] theorem live_102_5 : C.live 102 5 = some [] := by kernel_rfl
@[go_sem] theorem live_102_3 : C.live 102 3 = some [5, 1, 0] := by kernel_rfl
@[go_sem] theorem live_102_6 : C.live 102 6 = some [] := by kernel_rfl
@[go_sem] theorem esc_103 : C.esc 103 = [] := by kernel_rfl
@[go_sem] theorem live_103_0 : C.live 103 0 = some [] := by kernel_rfl
@[go_sem] theorem live_103_1 : C.live 103 1 = some [] := by kernel_rfl
@[go_sem] theorem esc_104 : C.esc 104 = [] := by kernel_rfl
@[go_sem] theorem live_104_0 : C.live 104 0 = some [0] := by kernel_rfl
@[go_sem] theorem live_104_1 : C.live 104 1 = some [0] := by kernel_rfl
@[go_sem] theorem live_104_2 : C.live 104 2 = some [] := by kernel_rfl
@[go_sem] theorem live_104_3 : C.live 104 3 = some [0] := by kernel_rfl
@[go_sem] theorem esc_105 : C.esc 105 = [] := by kernel_rfl
@[go_sem] theorem live_105_0 : C.live 105 0 = some [0] := by kernel_rfl
@[go_sem] theorem live_105_1 : C.live 105 1 = some [0] := by kernel_rfl
@[go_sem] theorem live_105_2 : C.live 105 2 = some [] := by kernel_rfl
@[go_sem] theorem live_105_3 : C.live 105 3 = some [0] := by kernel_rfl
@[go_sem] theorem esc_106 : C.esc 106 = [] := by kernel_rfl
@[go_sem] theorem live_106_0 : C.live 106 0 = some [0] := by kernel_rfl
@[go_sem] theorem live_106_1 : C.live 106 1 = some [0] := by kernel_rfl
@[go_sem] theorem kind_25 : kindT Tryd.prog 25 = some (3, true) := by kernel_rfl
@[go_sem] theorem bool_30 : boolT Tryd.prog 30 = false := by kernel_rfl
@[go_sem] theorem bool_9 : boolT Tryd.prog 9 = false := by kernel_rfl
@[go_sem] theorem bool_4 : boolT Tryd.prog 4 = true := by kernel_rfl
@[go_sem] theorem arr_29 : arrT Tryd.prog 29 = some (2, 4, true) := by kernel_rfl
@[go_sem] theorem elem_29 : elemT Tryd.prog 29 = none := by kernel_rfl
@[go_sem] theorem kind_28 : kindT Tryd.prog 28 = some (4, true) := by kernel_rfl
@[go_sem] theorem zero_35 : zeroT Tryd.prog 35 = some (.agg [.d (.int .i64 0), .d (.str []), .d (.int .i64 0), .d (.int .i64 0), .d (.int .i64 0), .d (.str []), .nilS, .d (.int .i64 0), .d (.int .i64 0), .d (.str []), .nilS, .nilS, .nilS]) := by kernel_rfl
@[go_sem] theorem fields_35 : fieldsT Tryd.prog 35 = some [(0, 1), (1, 1), (2, 1), (3, 4), (7, 4), (11, 1), (12, 1)] := by kernel_rfl
@[go_sem] theorem elem_23 : elemT Tryd.prog 23 = some (35, 13) := by kernel_rfl
@[go_sem] theorem zero_25 : zeroT Tryd.prog 25 = some (.agg [.d (.str []), .nilS, .nilS]) := by kernel_rfl
@[go_sem] theorem fields_25 : fieldsT Tryd.prog 25 = some [(0, 1), (1, 1), (2, 1)] := by kernel_rfl
@[go_sem] theorem len_9 : lenT Tryd.prog 9 = 1 := by kernel_rfl
@[go_sem] theorem bool_3 : boolT Tryd.prog 3 = false := by kernel_rfl
@[go_sem] theorem str_9 : strT Tryd.prog 9 = true := by kernel_rfl
@[go_sem] theorem arr_9 : arrT Tryd.prog 9 = none := by kernel_rfl
@[go_sem] theorem bool_5 : boolT Tryd.prog 5 = false := by kernel_rfl
@[go_sem] theorem elem_9 : elemT Tryd.prog 9 = none := by kernel_rfl
@[go_sem] theorem elem_26 : elemT Tryd.prog 26 = some (28, 4) := by kernel_rfl
@[go_sem] theorem zero_28 : zeroT Tryd.prog 28 = some (.agg [.d (.int .i64 0), .d (.int .i64 0), .d (.str []), .nilS]) := by kernel_rfl
@[go_sem] theorem elem_43 : elemT Tryd.prog 43 = some (3, 1) := by kernel_rfl
@[go_sem] theorem zero_3 : zeroT Tryd.prog 3 = some (.d (.int .i64 0)) := by kernel_rfl
@[go_sem] theorem elem_44 : elemT Tryd.prog 44 = some (9, 1) := by kernel_rfl
@[go_sem] theorem zero_9 : zeroT Tryd.prog 9 = some (.d (.str [])) := by kernel_rfl
@[go_sem] theorem len_43 : lenT Tryd.prog 43 = 2 := by kernel_rfl
@[go_sem] theorem arr_43 : arrT Tryd.prog 43 = none := by kernel_rfl
@[go_sem] theorem kind_3 : kindT Tryd.prog 3 = some (1, false) := by kernel_rfl
@[go_sem] theorem arr_44 : arrT Tryd.prog 44 = none := by kernel_rfl
@[go_sem] theorem kind_9 : kindT Tryd.prog 9 = some (1, false) := by kernel_rfl
@[go_sem] theorem len_46 : lenT Tryd.prog 46 = 2 := by kernel_rfl
@[go_sem] theorem arr_46 : arrT Tryd.prog 46 = none := by kernel_rfl
@[go_sem] theorem elem_46 : elemT Tryd.prog 46 = some (25, 3) := by kernel_rfl
@[go_sem] theorem field_25_0 : fieldT Tryd.prog 25 0 = some (0, 1, false) := by kernel_rfl
@[go_sem] theorem field_25_1 : fieldT Tryd.prog 25 1 = some (1, 1, false) := by kernel_rfl
@[go_sem] theorem kind_22 : kindT Tryd.prog 22 = some (1, false) := by kernel_rfl
@[go_sem] theorem zero_30 : zeroT Tryd.prog 30 = some (.d (.int .i64 0)) := by kernel_rfl
@[go_sem] theorem kind_30 : kindT Tryd.prog 30 = some (1, false) := by kernel_rfl
@[go_sem] theorem len_22 : lenT Tryd.prog 22 = 2 := by kernel_rfl
@[go_sem] theorem arr_22 : arrT Tryd.prog 22 = none := by kernel_rfl
@[go_sem] theorem elem_22 : elemT Tryd.prog 22 = some (56, 2) := by kernel_rfl
@[go_sem] theorem kind_56 : kindT Tryd.prog 56 = some (2, true) := by kernel_rfl
@[go_sem] theorem zero_56 : zeroT Tryd.prog 56 = some (.agg [.d (.str []), .d (.int .i64 0)]) := by kernel_rfl
@[go_sem] theorem field_56_0 : fieldT Tryd.prog 56 0 = some (0, 1, false) := by kernel_rfl
@[go_sem] theorem field_56_1 : fieldT Tryd.prog 56 1 = some (1, 1, false) := by kernel_rfl
@[go_sem] theorem room_9_1 : aroomT Tryd.prog 9 1 = true := by kernel_rfl
@[go_sem] theorem zero_64 : zeroT Tryd.prog 64 = some (.agg [.nilP, .nilS, .d (.int .i64 0)]) := by kernel_rfl
@[go_sem] theorem fields_64 : fieldsT Tryd.prog 64 = some [(0, 2), (2, 1)] := by kernel_rfl
@[go_sem] theorem field_25_2 : fieldT Tryd.prog 25 2 = some (2, 1, false) := by kernel_rfl
@[go_sem] theorem kind_23 : kindT Tryd.prog 23 = some (1, false) := by kernel_rfl
@[go_sem] theorem field_64_0 : fieldT Tryd.prog 64 0 = some (0, 2, true) := by kernel_rfl
@[go_sem] theorem bool_56 : boolT Tryd.prog 56 = false := by kernel_rfl
@[go_sem] theorem flat_56 : flatT Tryd.prog 56 = some [2, 1] := by kernel_rfl
@[go_sem] theorem fields_56 : fieldsT Tryd.prog 56 = some [(0, 1), (1, 1)] := by kernel_rfl
@[go_sem] theorem fields_28 : fieldsT Tryd.prog 28 = some [(0, 1), (1, 1), (2, 1), (3, 1)] := by kernel_rfl
@[go_sem] theorem conv_5_21 : convT Tryd.prog 5 21 = some .i32 := by kernel_rfl
@[go_sem] theorem str_5 : strT Tryd.prog 5 = false := by kernel_rfl
@[go_sem] theorem str_21 : strT Tryd.prog 21 = false := by kernel_rfl
@[go_sem] theorem str_22 : strT Tryd.prog 22 = false := by kernel_rfl
@[go_sem] theorem zero_79 : zeroT Tryd.prog 79 = some (.agg [.d (.int .i64 0), .nilF, .nilF]) := by kernel_rfl
@[go_sem] theorem fields_79 : fieldsT Tryd.prog 79 = some [(0, 1), (1, 1), (2, 1)] := by kernel_rfl
@[go_sem] theorem field_79_0 : fieldT Tryd.prog 79 0 = some (0, 1, false) := by kernel_rfl
@[go_sem] theorem kind_35 : kindT Tryd.prog 35 = some (13, true) := by kernel_rfl
@[go_sem] theorem field_35_0 : fieldT Tryd.prog 35 0 = some (0, 1, false) := by kernel_rfl
@[go_sem] theorem zero_82 : zeroT Tryd.prog 82 = some (.agg [.d (.bool false), .d (.bool false), .d (.bool false), .d (.bool false), .d (.bool false), .d (.bool false)]) := by kernel_rfl
@[go_sem] theorem kind_82 : kindT Tryd.prog 82 = some (6, true) := by kernel_rfl
@[go_sem] theorem field_82_0 : fieldT Tryd.prog 82 0 = some (0, 1, false) := by kernel_rfl
@[go_sem] theorem kind_4 : kindT Tryd.prog 4 = some (1, false) := by kernel_rfl
@[go_sem] theorem field_35_1 : fieldT Tryd.prog 35 1 = some (1, 1, false) := by kernel_rfl
@[go_sem] theorem field_82_1 : fieldT Tryd.prog 82 1 = some (1, 1, false) := by kernel_rfl
@[go_sem] theorem field_35_3 : fieldT Tryd.prog 35 3 = some (3, 4, true) := by kernel_rfl
@[go_sem] theorem field_82_2 : fieldT Tryd.prog 82 2 = some (2, 1, false) := by kernel_rfl
@[go_sem] theorem field_35_4 : fieldT Tryd.prog 35 4 = some (7, 4, true) := by kernel_rfl
@[go_sem] theorem field_64_1 : fieldT Tryd.prog 64 1 = some (2, 1, false) := by kernel_rfl
@[go_sem] theorem len_44 : lenT Tryd.prog 44 = 2 := by kernel_rfl
@[go_sem] theorem zero_62 : zeroT Tryd.prog 62 = some (.agg [.nilP, .nilS]) := by kernel_rfl
@[go_sem] theorem str_44 : strT Tryd.prog 44 = false := by kernel_rfl
@[go_sem] theorem len_23 : lenT Tryd.prog 23 = 2 := by kernel_rfl
@[go_sem] theorem arr_23 : arrT Tryd.prog 23 = none := by kernel_rfl
@[go_sem] theorem field_62_1 : fieldT Tryd.prog 62 1 = some (1, 1, false) := by kernel_rfl
@[go_sem] theorem kind_60 : kindT Tryd.prog 60 = some (1, false) := by kernel_rfl
@[go_sem] theorem len_60 : lenT Tryd.prog 60 = 2 := by kernel_rfl
@[go_sem] theorem field_35_2 : fieldT Tryd.prog 35 2 = some (2, 1, false) := by kernel_rfl
@[go_sem] theorem field_35_5 : fieldT Tryd.prog 35 5 = some (11, 1, false) := by kernel_rfl
@[go_sem] theorem field_35_6 : fieldT Tryd.prog 35 6 = some (12, 1, false) := by kernel_rfl
@[go_sem] theorem field_28_3 : fieldT Tryd.prog 28 3 = some (3, 1, false) := by kernel_rfl
@[go_sem] theorem kind_26 : kindT Tryd.prog 26 = some (1, false) := by kernel_rfl
@[go_sem] theorem len_26 : lenT Tryd.prog 26 = 2 := by kernel_rfl
@[go_sem] theorem arr_26 : arrT Tryd.prog 26 = none := by kernel_rfl
@[go_sem] theorem field_28_0 : fieldT Tryd.prog 28 0 = some (0, 1, false) := by kernel_rfl
@[go_sem] theorem field_28_1 : fieldT Tryd.prog 28 1 = some (1, 1, false) := by kernel_rfl
@[go_sem] theorem kind_2 : kindT Tryd.prog 2 = some (1, false) := by kernel_rfl
@[go_sem] theorem field_28_2 : fieldT Tryd.prog 28 2 = some (2, 1, false) := by kernel_rfl
@[go_sem] theorem bool_21 : boolT Tryd.prog 21 = false := by kernel_rfl
@[go_sem] theorem field_79_1 : fieldT Tryd.prog 79 1 = some (1, 1, false) := by kernel_rfl
@[go_sem] theorem kind_53 : kindT Tryd.prog 53 = some (1, false) := by kernel_rfl
@[go_sem] theorem fields_82 : fieldsT Tryd.prog 82 = some [(0, 1), (1, 1), (2, 1), (3, 1), (4, 1), (5, 1)] := by kernel_rfl
@[go_sem] theorem field_82_3 : fieldT Tryd.prog 82 3 = some (3, 1, false) := by kernel_rfl
@[go_sem] theorem field_82_4 : fieldT Tryd.prog 82 4 = some (4, 1, false) := by kernel_rfl
@[go_sem] theorem field_82_5 : fieldT Tryd.prog 82 5 = some (5, 1, false) := by kernel_rfl
@[go_sem] theorem elem_60 : elemT Tryd.prog 60 = some (5, 1) := by kernel_rfl
@[go_sem] theorem room_5_1 : aroomT Tryd.prog 5 1 = true := by kernel_rfl
@[go_sem] theorem zero_5 : zeroT Tryd.prog 5 = some (.d (.int .u8 0)) := by kernel_rfl
@[go_sem] theorem bool_2 : boolT Tryd.prog 2 = false := by kernel_rfl
@[go_sem] theorem bool_104 : boolT Tryd.prog 104 = false := by kernel_rfl
@[go_sem] theorem conv_104_5 : convT Tryd.prog 104 5 = some .u8 := by kernel_rfl
@[go_sem] theorem str_104 : strT Tryd.prog 104 = false := by kernel_rfl
@[go_sem] theorem bytes_60_9 : bytesT Tryd.prog 60 9 = true := by kernel_rfl
@[go_sem] theorem str_60 : strT Tryd.prog 60 = false := by kernel_rfl
@[go_sem] theorem field_79_2 : fieldT Tryd.prog 79 2 = some (2, 1, false) := by kernel_rfl
@[go_sem] theorem kind_54 : kindT Tryd.prog 54 = some (1, false) := by kernel_rfl
@[go_sem] theorem field_62_0 : fieldT Tryd.prog 62 0 = some (0, 1, false) := by kernel_rfl
@[go_sem] theorem kind_59 : kindT Tryd.prog 59 = some (1, false) := by kernel_rfl
@[go_sem] theorem bool_59 : boolT Tryd.prog 59 = false := by kernel_rfl
@[go_sem] theorem str_59 : strT Tryd.prog 59 = false := by kernel_rfl
@[go_sem] theorem str_106 : strT Tryd.prog 106 = false := by kernel_rfl
@[go_sem] theorem conv_2_104 : convT Tryd.prog 2 104 = some .u64 := by kernel_rfl
@[go_sem] theorem str_2 : strT Tryd.prog 2 = false := by kernel_rfl
@[go_sem] theorem zero_109 : zeroT Tryd.prog 109 = some (.agg [.d (.int .u8 0), .d (.int .u8 0), .d (.int .u8 0), .d (.int .u8 0), .d (.int .u8 0), .d (.int .u8 0), .d (.int .u8 0), .d (.int .u8 0), .d (.int .u8 0), .d (.int .u8 0), .d (.int .u8 0), .d (.int .u8 0), .d (.int .u8 0), .d (.int .u8 0), .d (.int .u8 0), .d (.int .u8 0), .d (.int .u8 0), .d (.int .u8 0), .d (.int .u8 0), .d (.int .u8 0), .d (.int .u8 0), .d (.int .u8 0), .d (.int .u8 0), .d (.int .u8 0)]) := by kernel_rfl
@[go_sem] theorem str_109 : strT Tryd.prog 109 = false := by kernel_rfl
@[go_sem] theorem elem_109 : elemT Tryd.prog 109 = none := by kernel_rfl
@[go_sem] theorem arr_109 : arrT Tryd.prog 109 = some (24, 1, false) := by kernel_rfl
@[go_sem] theorem kind_5 : kindT Tryd.prog 5 = some (1, false) := by kernel_rfl
@[go_sem] theorem arr_117 : arrT Tryd.prog 117 = some (20, 1, false) := by kernel_rfl
@[go_sem] theorem elem_117 : elemT Tryd.prog 117 = none := by kernel_rfl
@[go_sem] theorem kind_104 : kindT Tryd.prog 104 = some (1, false) := by kernel_rfl
@[go_sem] theorem conv_104_118 : convT Tryd.prog 104 118 = some .u32 := by kernel_rfl
@[go_sem] theorem str_118 : strT Tryd.prog 118 = false := by kernel_rfl
@[go_sem] theorem bool_118 : boolT Tryd.prog 118 = false := by kernel_rfl
@[go_sem] theorem arr_60 : arrT Tryd.prog 60 = none := by kernel_rfl
@[go_sem] theorem conv_118_5 : convT Tryd.prog 118 5 = some .u8 := by kernel_rfl
@[go_sem] theorem zero_119 : zeroT Tryd.prog 119 = some (.agg [.d (.int .u8 0), .d (.int .u8 0), .d (.int .u8 0), .d (.int .u8 0), .d (.int .u8 0), .d (.int .u8 0), .d (.int .u8 0), .d (.int .u8 0), .d (.int .u8 0), .d (.int .u8 0), .d (.int .u8 0), .d (.int .u8 0), .d (.int .u8 0), .d (.int .u8 0), .d (.int .u8 0), .d (.int .u8 0), .d (.int .u8 0), .d (.int .u8 0), .d (.int .u8 0), .d (.int .u8 0), .d (.int .u8 0), .d (.int .u8 0), .d (.int .u8 0), .d (.int .u8 0), .d (.int .u8 0), .d (.int .u8 0), .d (.int .u8 0), .d (.int .u8 0), .d (.int .u8 0), .d (.int .u8 0), .d (.int .u8 0), .d (.int .u8 0), .d (.int .u8 0), .d (.int .u8 0), .d (.int .u8 0), .d (.int .u8 0), .d (.int .u8 0), .d (.int .u8 0), .d (.int .u8 0), .d (.int .u8 0), .d (.int .u8 0), .d (.int .u8 0), .d (.int .u8 0), .d (.int .u8 0), .d (.int .u8 0), .d (.int .u8 0), .d (.int .u8 0), .d (.int .u8 0), .d (.int .u8 0), .d (.int .u8 0), .d (.int .u8 0), .d (.int .u8 0), .d (.int .u8 0), .d (.int .u8 0), .d (.int .u8 0), .d (.int .u8 0), .d (.int .u8 0), .d (.int .u8 0), .d (.int .u8 0), .d (.int .u8 0), .d (.int .u8 0), .d (.int .u8 0), .d (.int .u8 0), .d (.int .u8 0), .d (.int .u8 0)]) := by kernel_rfl
@[go_sem] theorem conv_3_121 : convT Tryd.prog 3 121 = some .u64 := by kernel_rfl
@[go_sem] theorem str_3 : strT Tryd.prog 3 = false := by kernel_rfl
@[go_sem] theorem str_121 : strT Tryd.prog 121 = false := by kernel_rfl
@[go_sem] theorem conv_3_104 : convT Tryd.prog 3 104 = some .u64 := by kernel_rfl
@[go_sem] theorem bool_121 : boolT Tryd.prog 121 = false := by kernel_rfl
@[go_sem] theorem arr_119 : arrT Tryd.prog 119 = some (65, 1, false) := by kernel_rfl
@[go_sem] theorem elem_119 : elemT Tryd.prog 119 = none := by kernel_rfl
@[go_sem] theorem str_119 : strT Tryd.prog 119 = false := by kernel_rfl
@[go_sem] theorem conv_5_3 : convT Tryd.prog 5 3 = some .i64 := by kernel_rfl
@[go_sem] theorem conv_121_118 : convT Tryd.prog 121 118 = some .u32 := by kernel_rfl
@[go_sem] theorem arr_126 : arrT Tryd.prog 126 = some (32, 1, false) := by kernel_rfl
@[go_sem] theorem elem_126 : elemT Tryd.prog 126 = none := by kernel_rfl
@[go_sem] theorem arr_127 : arrT Tryd.prog 127 = some (64, 1, false) := by kernel_rfl
@[go_sem] theorem elem_127 : elemT Tryd.prog 127 = none := by kernel_rfl
attribute [go_sem] List.getElem?_toArray List.getElem?_cons_zero List.getElem?_cons_succ List.length_cons List.length_nil List.take_succ_cons List.take_zero List.drop_succ_cons List.drop_zero List.drop_nil List.take_nil List.nil_append List.cons_append List.append_nil List.contains_cons List.contains_nil Bool.or_false Bool.false_or Bool.or_true Bool.true_or Bool.and_true Bool.true_and Bool.and_false Bool.false_and Bool.not_true Bool.not_false Bool.not_not Option.isSome_some Option.isSome_none List.map_cons List.map_nil ite_not not_true_eq_false not_false_eq_true Nat.zero_add Nat.add_zero
end Go.Proofs.YtfflfaedghfmdaaDoor
