/- Facts of this program that the walks look up: which slots live on, which escape, how wide the types are. -/
import Derived.Test.YtfflfaedghfmdaaGreatDoorProg
import Derived.KernelRfl
import Derived.Lib.ItoaNum
import Derived.Test.YtfflfaedghfmdaaGreatDoorGenC
import Derived.Test.YtfflfaedghfmdaaGreatDoorGenB
set_option linter.unusedVariables false
set_option linter.unusedSimpArgs false
set_option linter.all false
set_option linter.deprecated false
set_option linter.unusedVariables false
set_option linter.all false
namespace Go.Proofs.YtfflfaedghfmdaaGreatDoor
open Go.Abs
def escT (f : Nat) : List Nat := bif Nat.blt f 68 then (bif Nat.blt f 34 then (bif Nat.blt f 17 then (bif Nat.blt f 8 then (bif Nat.blt f 4 then ([]) else (bif Nat.blt f 6 then (bif Nat.blt f 5 then ([29]) else ([])) else ([]))) else (bif Nat.blt f 12 then (bif Nat.blt f 10 then (bif Nat.blt f 9 then ([]) else ([3])) else ([])) else (bif Nat.blt f 14 then (bif Nat.blt f 13 then ([8]) else ([])) else ([])))) else (bif Nat.blt f 25 then (bif Nat.blt f 21 then ([]) else (bif Nat.blt f 23 then ([]) else (bif Nat.blt f 24 then ([4]) else ([11])))) else ([]))) else ([])) else (bif Nat.blt f 102 then (bif Nat.blt f 85 then (bif Nat.blt f 76 then (bif Nat.blt f 72 then (bif Nat.blt f 70 then ([]) else (bif Nat.blt f 71 then ([4]) else ([]))) else ([])) else ([])) else (bif Nat.blt f 93 then ([]) else (bif Nat.blt f 97 then ([]) else (bif Nat.blt f 99 then ([]) else (bif Nat.blt f 100 then ([5]) else ([])))))) else (bif Nat.blt f 119 then (bif Nat.blt f 110 then (bif Nat.blt f 106 then (bif Nat.blt f 104 then ([]) else (bif Nat.blt f 105 then ([]) else ([12]))) else ([])) else ([])) else ([])))
def liveL (f : Nat) : List (Nat × List Nat) := bif Nat.blt f 68 then (bif Nat.blt f 34 then (bif Nat.blt f 17 then (bif Nat.blt f 8 then (bif Nat.blt f 4 then (bif Nat.blt f 2 then ([]) else (bif Nat.blt f 3 then ([(0, [])]) else ([(0, [0]), (1, [0]), (2, [0, 3]), (4, [0, 3]), (5, []), (3, [3, 0]), (6, [0])]))) else (bif Nat.blt f 6 then (bif Nat.blt f 5 then ([(0, [0]), (1, [1]), (2, []), (3, [1]), (4, [3, 1]), (5, [3, 13, 11, 1, 12]), (6, [3, 13, 11, 1, 12]), (7, [3, 5, 13, 11, 1, 12]), (8, [13, 3, 11, 1, 12]), (9, [3, 1]), (10, [3, 1, 6]), (11, [1, 6]), (12, [6]), (13, [6])]) else ([(0, [0]), (1, [1]), (2, []), (3, [1]), (4, [1, 3]), (5, [3, 4, 1]), (7, [3, 4, 1]), (8, [3, 4, 1]), (9, [3, 4, 1]), (6, [4, 1, 3]), (10, [3, 1])])) else (bif Nat.blt f 7 then ([(0, [0]), (1, [0]), (2, [0, 3]), (3, [8, 7, 9, 3]), (4, [8, 7, 9, 3]), (5, [5, 8, 7, 9, 3]), (6, [8, 7, 9, 6, 3]), (7, []), (8, [3, 6, 9, 7, 8]), (9, [9, 3, 7, 8]), (10, [3])]) else ([(0, [0]), (1, [0]), (2, [3, 0]), (3, [0, 4, 3]), (5, [0, 4, 3]), (6, [0, 4, 5, 3]), (7, []), (8, [3, 5, 4, 0]), (9, [3, 5, 4, 0]), (10, [3, 5, 4, 0]), (4, [4, 3, 0]), (11, [3])])))) else (bif Nat.blt f 12 then (bif Nat.blt f 10 then (bif Nat.blt f 9 then ([(0, []), (1, []), (2, [1]), (3, [2, 3, 4, 1]), (4, [1, 5, 6]), (5, [7, 8, 1, 5, 6]), (6, [1, 5, 6, 9])]) else ([(0, [0]), (1, [1]), (2, []), (3, [1]), (4, [1, 3]), (5, [3]), (6, [1, 3]), (7, [4, 3]), (8, []), (9, [3])])) else (bif Nat.blt f 11 then ([(0, [0]), (1, [0]), (2, [3]), (4, [3]), (5, []), (3, []), (6, [])]) else ([(0, [0, 1]), (1, [10, 0, 1, 9]), (2, [10, 0, 1, 9]), (3, [10, 0, 1, 9]), (4, [1, 0]), (5, [19, 0, 17, 18]), (6, [19, 0, 17, 18]), (7, [5, 19, 0, 17, 18]), (8, [19, 0, 17, 18]), (9, [0])]))) else (bif Nat.blt f 14 then (bif Nat.blt f 13 then ([(0, [0, 1]), (1, [0, 1]), (2, [0, 1, 12]), (4, [12, 1, 0]), (5, [0]), (3, []), (6, [0, 1]), (7, [5, 0, 1]), (8, [5, 0, 1]), (9, [5, 0, 1]), (10, [5, 0, 1]), (11, [5, 0, 1]), (12, [5, 41, 39, 0, 1, 40]), (13, [5, 41, 39, 0, 1, 40]), (14, [5, 7, 41, 39, 0, 1, 40]), (15, [5, 7, 41, 39, 0, 1, 40]), (16, [5, 7, 41, 39, 0, 1, 40]), (17, [41, 5, 39, 0, 1, 40]), (18, [5, 0, 1]), (19, [5, 0, 8, 1]), (20, [0, 8, 1]), (21, [0, 8, 1]), (22, [65, 8, 1, 63, 64]), (23, [65, 8, 1, 63, 64]), (24, [10, 65, 8, 1, 63, 64]), (25, [10, 65, 8, 1, 63, 64]), (26, [65, 8, 1, 63, 64]), (27, [8])]) else ([(0, [1, 0]), (1, [1, 0]), (2, [16, 0, 14, 15]), (3, [16, 0, 14, 15]), (4, [5, 16, 0, 14, 15]), (5, [6, 5, 16, 0, 14, 15]), (6, [16, 0, 14, 15]), (7, [0])])) else (bif Nat.blt f 15 then ([(0, [0]), (1, [0])]) else (bif Nat.blt f 16 then ([(0, [0]), (1, [1]), (2, []), (3, [1]), (4, [1, 3]), (5, [3]), (6, [1]), (7, [4]), (8, [4, 5]), (10, [4, 5]), (11, [4, 5]), (12, [4, 5, 6]), (13, [6]), (9, [5, 4]), (14, [4]), (15, []), (16, [])]) else ([(0, [0]), (1, [0]), (2, [3]), (4, [3]), (5, []), (3, []), (6, [])])))))) else (bif Nat.blt f 25 then (bif Nat.blt f 21 then (bif Nat.blt f 19 then (bif Nat.blt f 18 then ([(0, [1, 0]), (1, [1, 0]), (2, [1, 0, 5]), (3, [5, 6, 1, 0]), (5, [5, 6, 1, 0]), (4, [6, 1, 0, 5]), (6, [5])]) else ([(0, [0, 1]), (1, [0, 1, 4])])) else ([(0, [0]), (1, [0, 2])])) else (bif Nat.blt f 23 then (bif Nat.blt f 22 then ([(0, [0]), (1, [1]), (2, []), (3, [1])]) else ([(0, [0]), (1, [0])])) else (bif Nat.blt f 24 then ([(0, [0]), (1, [0]), (2, []), (3, [0]), (4, [9, 8, 0, 10]), (5, [9, 8, 0, 10]), (6, [3, 4, 9, 8, 0, 10]), (8, [10, 0, 8, 9, 4, 3]), (10, [3, 4, 9, 8, 0, 10]), (11, []), (9, []), (7, []), (12, [10, 0, 8, 9]), (13, [])]) else ([(0, [0, 1, 2]), (1, [1, 2, 3]), (2, [3, 7]), (3, [7])])))) else (bif Nat.blt f 29 then (bif Nat.blt f 27 then (bif Nat.blt f 26 then ([(0, [0, 1, 2]), (1, [3, 1, 2]), (2, [3, 1, 2])]) else ([(0, [0, 1]), (1, [1, 2]), (2, [6, 1, 2, 5]), (3, []), (4, [5, 2, 1]), (5, []), (6, [1, 2, 5]), (7, [1, 2, 5]), (8, [1, 2, 5, 7]), (9, [7]), (10, [5, 2, 1]), (11, [2, 1]), (12, [1, 8]), (13, [8]), (14, [1]), (15, []), (16, [])])) else (bif Nat.blt f 28 then ([(0, [0])]) else ([(0, [0, 1]), (1, [0, 1]), (2, [0, 1]), (3, [1])]))) else (bif Nat.blt f 31 then (bif Nat.blt f 30 then ([(0, [0, 1]), (1, [0, 1]), (2, [0, 1]), (3, [])]) else ([(0, [0, 1]), (1, [0, 1]), (2, [0, 1]), (3, [0, 1]), (4, [0, 1])])) else (bif Nat.blt f 32 then ([(0, [0]), (1, [0]), (2, [3]), (4, [3]), (6, [3]), (8, [3]), (10, [3]), (12, [3]), (14, [3]), (15, []), (13, []), (11, []), (9, []), (7, []), (5, []), (3, []), (16, [])]) else (bif Nat.blt f 33 then ([(0, [0]), (1, [0])]) else ([(0, [0]), (1, [0]), (2, []), (3, [0]), (4, [3, 0]), (6, [3, 0]), (7, []), (8, [0, 3]), (9, []), (10, [3, 0]), (11, [0, 3, 4]), (13, [0, 3, 4]), (14, []), (12, [4, 3, 0]), (5, [3, 0]), (15, [])]))))))) else (bif Nat.blt f 51 then (bif Nat.blt f 42 then (bif Nat.blt f 38 then (bif Nat.blt f 36 then (bif Nat.blt f 35 then ([(0, [0]), (1, [1])]) else ([(0, [0, 1]), (1, [2, 1]), (2, [6, 9, 10, 5, 8, 2, 1, 7]), (3, []), (4, [7, 1, 2, 8, 5]), (5, []), (6, [5, 8, 2, 1, 7]), (7, []), (8, [7, 1, 2, 8]), (9, [1, 2, 8]), (10, [1, 2, 8, 11]), (11, [11]), (12, [8, 2, 1]), (13, [2, 1]), (14, [1, 12]), (15, [12]), (16, [1]), (17, []), (18, [])])) else (bif Nat.blt f 37 then ([(0, [0, 1]), (1, [1, 2]), (2, [1, 5, 2]), (3, [10, 1, 5, 2]), (5, [1, 10, 5, 2]), (7, [10, 1, 5, 2]), (9, [1, 10, 5, 2]), (11, [10, 1, 5, 2]), (13, [1, 10, 5, 2]), (15, [10, 2, 1, 5]), (16, [2, 1, 5]), (14, [5, 2]), (12, [5, 2]), (10, [5, 2]), (8, [5, 2]), (6, [5, 2]), (4, [5, 2]), (17, [2, 1, 5]), (18, [6, 2, 1, 5]), (19, [6, 2, 1, 5]), (20, [6])]) else ([(0, [0]), (1, [1])]))) else (bif Nat.blt f 40 then (bif Nat.blt f 39 then ([(0, [0]), (1, [1]), (2, [3, 1]), (4, [3, 1]), (7, [3, 1]), (9, [1, 3]), (11, [1, 3]), (13, [3, 1]), (15, [3, 1]), (17, [3, 1]), (18, [1]), (16, [1]), (14, [1]), (12, [1, 3]), (10, [1, 3]), (8, [1]), (5, [1]), (6, [4]), (3, [1]), (19, [1, 3])]) else ([(0, [0]), (1, [0])])) else (bif Nat.blt f 41 then ([(0, [0]), (1, [0]), (2, [6, 0]), (3, [7, 6, 0]), (4, [4, 6, 0, 3]), (5, [3]), (6, [0])]) else ([(0, [0]), (1, [0]), (2, [3]), (3, [3]), (4, [3]), (5, [3]), (6, [3]), (7, [3]), (8, [3]), (9, [3]), (10, [3]), (11, [3]), (12, [3]), (13, [3]), (14, [3]), (15, [3]), (16, [3]), (17, [3]), (18, [3]), (19, [3]), (20, [3]), (21, [3]), (22, [3]), (23, [3]), (24, [3]), (25, [3]), (26, [3]), (27, []), (28, [])])))) else (bif Nat.blt f 46 then (bif Nat.blt f 44 then (bif Nat.blt f 43 then ([(0, [0, 1]), (1, [0, 1])]) else ([(0, [0, 1]), (1, [2, 1])])) else (bif Nat.blt f 45 then ([(0, [1, 0, 2]), (1, [9, 8, 2, 0, 10]), (2, [9, 8, 2, 0, 10]), (3, [9, 8, 2, 0, 10, 7]), (4, [7, 10, 0, 2, 8, 9]), (5, [7, 10, 0, 2, 8, 9]), (6, [7, 10, 0, 2, 8, 9]), (7, [7, 10, 0, 2, 8, 9]), (8, [7, 10, 0, 2, 8, 9]), (9, [7, 10, 0, 2, 8, 9]), (10, [10, 0, 2, 8, 9])]) else ([(0, [0]), (1, [0, 2]), (2, [4, 2]), (3, [4, 2]), (5, [4, 2]), (7, [4, 2]), (8, [4, 2]), (10, [4, 2]), (12, [4, 2]), (14, [4, 2]), (15, [2]), (13, [2]), (11, [2]), (9, [2]), (6, [2]), (4, [2]), (16, [2])]))) else (bif Nat.blt f 48 then (bif Nat.blt f 47 then ([(0, [0, 1]), (1, [3, 2]), (2, []), (3, [2]), (4, [68, 2]), (6, [68, 2]), (7, [2]), (5, [2]), (8, [])]) else ([(0, [0]), (2, [0]), (1, [0])])) else (bif Nat.blt f 49 then ([(0, [1, 0]), (1, [0, 4]), (2, [0, 4])]) else ([(0, [1, 0]), (1, [0, 3])]))))) else (bif Nat.blt f 59 then (bif Nat.blt f 55 then (bif Nat.blt f 53 then ([(0, [1, 0]), (1, [0, 3])]) else (bif Nat.blt f 54 then ([(0, [1, 0]), (1, [3, 0]), (2, [3, 0]), (3, [3, 0]), (4, [3, 0]), (5, [3, 0]), (6, [0])]) else ([(0, [1, 0]), (1, [3, 0]), (2, [3, 0]), (3, [0])]))) else (bif Nat.blt f 57 then ([(0, [1, 0]), (1, [0, 3])]) else (bif Nat.blt f 58 then ([(0, [0]), (1, [0])]) else ([(0, [1, 0]), (1, [1, 0]), (2, [1, 0]), (3, [1])])))) else (bif Nat.blt f 63 then (bif Nat.blt f 61 then (bif Nat.blt f 60 then ([(0, [0]), (1, [0])]) else ([(0, [2, 1, 0]), (1, [2, 1, 0]), (2, [0, 7, 2, 1]), (4, [0, 7, 2, 1]), (5, [0, 7, 2, 1]), (6, [0, 7, 2, 1]), (7, [0, 7, 2, 1]), (8, [0, 7, 2, 1]), (9, [0, 7, 2, 1]), (10, [0, 7, 2, 1]), (3, [7, 2, 1, 0]), (11, [0])])) else (bif Nat.blt f 62 then ([(0, [0]), (1, [0]), (2, [8]), (3, [8]), (5, [8]), (7, [8]), (8, [8]), (10, [8]), (12, [8]), (13, []), (11, []), (9, []), (6, []), (4, []), (14, [])]) else ([(0, [0]), (1, [1])]))) else (bif Nat.blt f 65 then (bif Nat.blt f 64 then ([(0, [0]), (1, [1])]) else ([(0, [0]), (1, [0]), (2, [3, 0]), (3, [3, 4, 0]), (5, [3, 4, 0]), (4, [4, 3, 0]), (6, [3])])) else (bif Nat.blt f 66 then ([(0, [0]), (1, [1]), (2, [3, 1]), (3, [3, 10, 1]), (5, [10, 3, 1]), (8, [3, 10, 1]), (10, [10, 1, 3]), (12, [10, 1, 3]), (13, [1, 3]), (11, [1, 3]), (9, [1]), (6, [1]), (7, [4]), (4, [1]), (14, [3, 1]), (15, [1]), (16, [3, 1]), (17, [1]), (18, [3, 1]), (19, [1]), (20, [1, 3])]) else (bif Nat.blt f 67 then ([(0, [0]), (1, [0]), (2, [3, 0]), (3, [4, 3, 0]), (4, [4, 3, 0]), (5, [3, 4, 0]), (6, [0, 4]), (7, [4]), (8, [4])]) else ([(0, [0, 1]), (1, [1, 2]), (2, [1, 2, 5]), (3, [5]), (4, [2, 1]), (5, [17, 16, 1, 18]), (6, [17, 16, 1, 18]), (7, [7, 17, 16, 1, 18]), (8, [17, 16, 1, 18, 8]), (9, [8]), (10, [18, 1, 16, 17]), (11, [])])))))))) else (bif Nat.blt f 102 then (bif Nat.blt f 85 then (bif Nat.blt f 76 then (bif Nat.blt f 72 then (bif Nat.blt f 70 then (bif Nat.blt f 69 then ([(0, [0]), (1, [0]), (2, [3]), (4, [3]), (6, [3]), (8, [3]), (9, [3]), (10, [3]), (11, [3]), (12, [3]), (13, [3]), (15, [3]), (17, [3]), (18, [3]), (20, [3]), (21, [3]), (22, [3]), (24, [3]), (25, []), (23, []), (19, []), (16, []), (14, []), (7, []), (5, []), (3, []), (26, [])]) else ([(0, [0]), (1, [0])])) else (bif Nat.blt f 71 then ([(0, [0]), (1, [0]), (2, []), (3, [0]), (4, []), (5, [0]), (6, [4, 0]), (7, [4, 0]), (8, [15, 4, 0, 14]), (9, [15, 4, 0, 14]), (10, [5, 15, 4, 0, 14]), (11, [5, 15, 4, 0, 14]), (12, [5, 15, 4, 0, 14]), (13, [15, 4, 0, 14]), (14, [4]), (15, [4])]) else ([(0, [0, 1]), (1, [1, 2]), (2, [2]), (3, [2])]))) else (bif Nat.blt f 74 then (bif Nat.blt f 73 then ([(0, [0]), (1, [0]), (2, [3]), (4, [3]), (6, [3]), (8, [3]), (10, [3]), (12, [3]), (14, [3]), (16, [3]), (17, []), (15, []), (13, []), (11, []), (9, []), (7, []), (5, []), (3, []), (18, [])]) else ([(0, [0]), (1, [0]), (2, [3]), (4, [3]), (6, [3]), (8, [3]), (10, [3]), (12, [3]), (14, [3]), (16, [3]), (18, [3]), (20, [3]), (22, [3]), (24, [3]), (26, [3]), (27, []), (25, []), (23, []), (21, []), (19, []), (17, []), (15, []), (13, []), (11, []), (9, []), (7, []), (5, []), (3, []), (28, [])])) else (bif Nat.blt f 75 then ([(0, [0, 1]), (1, [0, 1]), (2, [7, 1, 0, 8]), (3, [7, 1, 0, 8]), (4, [7, 1, 0, 8, 5]), (5, [5]), (6, [8, 0, 1, 7]), (7, [])]) else ([(0, [1, 0]), (1, [3, 0]), (2, [0, 3]), (3, [0, 3])])))) else (bif Nat.blt f 80 then (bif Nat.blt f 78 then (bif Nat.blt f 77 then ([(0, [0]), (1, [1])]) else ([])) else (bif Nat.blt f 79 then ([]) else ([(0, [0]), (1, [0])]))) else (bif Nat.blt f 82 then (bif Nat.blt f 81 then ([(0, [1, 0]), (1, [1, 0]), (2, [0, 1, 5]), (4, [0, 1, 5]), (5, []), (3, [5, 1, 0]), (6, [])]) else ([(0, []), (1, [])])) else (bif Nat.blt f 83 then ([(0, [1, 2, 0]), (1, [4, 2, 0]), (2, [0]), (3, [0, 2, 4]), (4, [4, 0]), (5, [0, 7, 4]), (7, [0, 7, 4]), (6, [7, 4, 0]), (8, [0])]) else (bif Nat.blt f 84 then ([(0, [0, 1]), (1, [2, 1]), (2, [2, 1, 5]), (3, [5]), (4, [1, 2]), (5, [2, 1, 6]), (7, [2, 1, 6]), (8, [2, 1, 6, 7]), (9, [7]), (6, [6, 1, 2]), (10, [])]) else ([(0, [0]), (1, [0]), (2, [3]), (4, [3]), (6, [3]), (8, [3]), (9, [3]), (10, [3]), (11, [3]), (12, [3]), (13, [3]), (15, [3]), (17, [3]), (18, [3]), (20, [3]), (21, [3]), (22, [3]), (24, [3]), (25, []), (23, []), (19, []), (16, []), (14, []), (7, []), (5, []), (3, []), (26, [])])))))) else (bif Nat.blt f 93 then (bif Nat.blt f 89 then (bif Nat.blt f 87 then (bif Nat.blt f 86 then ([(0, [0]), (1, [0]), (2, []), (3, [0]), (4, []), (5, [0]), (6, [0, 4]), (7, [4, 5, 0]), (9, [4, 5, 0]), (10, [4, 5, 0]), (11, [4, 5, 0]), (8, [5, 0, 4]), (12, [4])]) else ([(0, [0, 1]), (1, [1, 2]), (2, [2]), (3, [2])])) else (bif Nat.blt f 88 then ([(0, [0]), (1, [0]), (2, [3]), (4, [3]), (6, [3]), (8, [3]), (10, [3]), (12, [3]), (14, [3]), (15, []), (13, []), (11, []), (9, []), (7, []), (5, []), (3, []), (16, [])]) else ([(0, [0]), (1, [0]), (2, [3]), (4, [3]), (6, [3]), (8, [3]), (10, [3]), (12, [3]), (14, [3]), (16, [3]), (18, [3]), (20, [3]), (22, [3]), (24, [3]), (26, [3]), (27, []), (25, []), (23, []), (21, []), (19, []), (17, []), (15, []), (13, []), (11, []), (9, []), (7, []), (5, []), (3, []), (28, [])]))) else (bif Nat.blt f 91 then (bif Nat.blt f 90 then ([(0, [0]), (1, [0]), (2, [0]), (3, [0])]) else ([(0, [0, 1]), (1, [2, 1]), (2, [2, 5, 1]), (4, [1, 5, 2]), (6, [2, 5, 1]), (8, [1]), (9, []), (7, []), (5, []), (3, []), (10, [])])) else (bif Nat.blt f 92 then ([(0, [0, 1]), (1, [0, 1])]) else ([(0, [0]), (1, [0]), (2, [5, 0, 6]), (3, [5, 0, 6]), (4, [3, 5, 0, 6]), (5, []), (6, [6, 0, 5]), (7, [])])))) else (bif Nat.blt f 97 then (bif Nat.blt f 95 then (bif Nat.blt f 94 then ([(0, [1, 0]), (1, [0, 3]), (2, [3, 0]), (3, [3, 0]), (4, [21, 0, 19, 20]), (5, [21, 0, 19, 20]), (6, [5, 21, 0, 19, 20]), (7, [21, 0, 19, 20])]) else ([(0, [0]), (1, [0])])) else (bif Nat.blt f 96 then ([(0, [0, 1]), (1, [2, 1]), (2, []), (3, [1, 2]), (4, []), (5, [2, 1]), (6, []), (7, [1]), (8, []), (9, [])]) else ([(0, [0]), (1, [0]), (2, [0, 3]), (4, [0, 3]), (5, []), (3, [3, 0]), (6, [])]))) else (bif Nat.blt f 99 then (bif Nat.blt f 98 then ([(0, [0]), (1, [0]), (3, [0]), (5, [0]), (6, []), (4, []), (2, []), (7, [])]) else ([(0, [0]), (1, [0]), (2, [0, 3]), (4, [0, 3]), (5, []), (3, [3, 0]), (6, [0])])) else (bif Nat.blt f 100 then ([(0, [1, 0]), (1, [1, 0]), (2, [0]), (3, [0]), (4, [0]), (5, [0, 5]), (6, [6, 0, 5]), (7, [6, 0, 5]), (8, [6, 0, 5]), (9, [6, 0, 7, 5]), (10, [0, 7, 5]), (11, [7, 5]), (12, [7, 5]), (13, [7, 5]), (14, [1, 0]), (15, [9])]) else (bif Nat.blt f 101 then ([(0, [0]), (1, [0]), (2, [0, 3]), (3, [0, 3]), (4, [0, 3]), (5, [0, 3]), (6, [0, 3]), (7, [0, 3]), (9, [3, 0]), (10, [3, 0]), (11, [3, 0]), (12, [3, 0]), (13, [3, 0]), (14, [3, 0]), (15, [3, 0]), (16, []), (8, []), (17, [0]), (18, []), (19, [])]) else ([(0, [0]), (1, [0]), (2, []), (3, [0]), (4, [0, 3]), (6, [0, 3]), (7, []), (5, [3, 0]), (8, [])]))))))) else (bif Nat.blt f 119 then (bif Nat.blt f 110 then (bif Nat.blt f 106 then (bif Nat.blt f 104 then (bif Nat.blt f 103 then ([(0, [0]), (1, [0]), (2, [0]), (3, [0])]) else ([(0, [0]), (1, [0]), (2, [0, 3])])) else (bif Nat.blt f 105 then ([(0, [0, 1]), (1, [1, 4, 0]), (2, [1, 4, 0]), (3, [1, 5, 4, 0]), (4, [5, 4, 0, 1]), (5, [7, 6, 4, 0, 1]), (6, [6, 9, 8, 4, 0, 1]), (7, [9, 8, 11, 10, 4, 0, 1]), (8, [8, 11, 10, 4, 0, 1]), (9, [11, 10, 4, 0, 1]), (10, [10, 4, 0, 1]), (11, [4, 0, 1]), (12, [1, 4, 0]), (13, [12, 4, 0]), (14, [12, 4, 0]), (15, [12, 13, 4, 0]), (16, [13, 4, 12, 0]), (17, [15, 14, 4, 12, 0]), (18, [14, 4, 12, 0]), (19, [4, 12, 0]), (20, [12, 4, 0]), (21, [12, 4, 0]), (22, [12, 16, 4, 0]), (23, [16, 4, 0, 12]), (24, [4, 0, 12]), (25, [4, 0, 12]), (26, [0, 12])]) else ([(0, [1, 2, 3, 4, 0]), (1, [1, 2, 3, 4, 10, 0, 11]), (2, [1, 2, 3, 4, 10, 0, 11]), (3, [1, 2, 3, 4, 10, 0, 11]), (4, [1, 2, 12, 3, 4, 10, 0, 11]), (5, [1, 2, 12, 13, 3, 4, 10, 0, 11]), (6, [1, 2, 12, 13, 3, 4, 10, 0, 11]), (7, [2, 1, 12, 13, 3, 4, 10, 0, 11]), (17, [2, 12, 1, 13, 3, 4, 10, 0, 11]), (18, [13, 1, 12, 17, 3, 4, 10, 0, 11]), (19, [13, 1, 12, 17, 3, 4, 10, 0, 11]), (20, [1, 12, 17, 13, 3, 4, 10, 0, 11]), (21, [1, 18, 12, 17, 13, 3, 4, 10, 0, 11]), (22, [18, 12, 17, 13, 3, 4, 10, 0, 11]), (23, [13, 1, 3, 4, 10, 0, 12, 11]), (24, [1, 3, 13, 4, 10, 0, 12, 11]), (8, [2, 1, 12, 13, 3, 4, 10, 0, 11]), (9, [2, 14, 1, 12, 13, 3, 4, 10, 0, 11]), (10, [2, 14, 1, 12, 13, 3, 4, 10, 0, 11, 15]), (11, [13, 1, 14, 12, 16, 3, 4, 10, 0, 11, 15]), (12, [13, 1, 14, 12, 16, 3, 4, 10, 0, 11, 15]), (13, [1, 14, 12, 16, 13, 3, 4, 10, 0, 11, 15]), (14, [1, 14, 12, 16, 13, 3, 4, 10, 0, 11, 15]), (15, [13, 1, 3, 4, 10, 0, 12, 11]), (16, [1, 3, 13, 4, 10, 0, 12, 11]), (25, [3, 13, 4, 10, 0, 12, 11]), (26, [13, 4, 10, 0, 12, 11]), (27, [4, 10, 0, 13, 12, 11]), (28, [4, 10, 0, 13, 12, 11]), (29, [0, 13, 12, 11]), (30, [13, 12, 10])]))) else (bif Nat.blt f 108 then (bif Nat.blt f 107 then ([(0, [0]), (1, [0])]) else ([(0, [0]), (1, [2, 0]), (2, [0]), (3, [0]), (4, [0, 2]), (5, [0, 2]), (6, [2, 0]), (7, [0, 2]), (8, [0, 2]), (9, [2, 0]), (10, [2, 0])])) else (bif Nat.blt f 109 then ([(0, [0]), (1, [0]), (2, []), (3, [])]) else ([(0, [0]), (1, [0])])))) else (bif Nat.blt f 114 then (bif Nat.blt f 112 then (bif Nat.blt f 111 then ([(0, [0]), (1, [0]), (2, [0])]) else ([(0, [0]), (1, [0]), (2, []), (3, [0])])) else (bif Nat.blt f 113 then ([(0, [0]), (1, [0]), (2, []), (3, [0])]) else ([]))) else ([]))) else (bif Nat.blt f 127 then ([]) else (bif Nat.blt f 131 then ([]) else (bif Nat.blt f 133 then ([]) else (bif Nat.blt f 134 then ([]) else (bif Nat.blt f 135 then ([]) else ([(0, []), (1, []), (2, [])]))))))))

def okL : List Nat := [3, 4, 5, 6, 7, 8, 9, 10, 11, 12, 13, 14, 15, 16, 17, 18, 19, 20, 21, 22, 23, 24, 25, 26, 27, 28, 29, 30, 31, 32, 33, 34, 35, 36, 37, 38, 39, 40, 41, 42, 43, 44, 45, 46, 47, 48, 49, 50, 51, 52, 53, 54, 55, 56, 57, 58, 59, 60, 61, 62, 63, 64, 65, 66, 67, 68, 69, 70, 71, 72, 73, 74, 75, 76, 79, 80, 81, 82, 83, 84, 85, 86, 87, 88, 89, 90, 91, 92, 93, 94, 95, 96, 97, 98, 99, 100, 101, 102, 103, 104, 105, 106, 107, 108, 109, 110, 111, 112]


def findL : Nat → List (Nat × List Nat) → Option (List Nat)
  | _, [] => none
  | r, (s, l) :: rest => bif Nat.beq r s then some l else findL r rest
/-- what is known of the library, for the closed example -/
def ext0 (f : Nat) : Option AFun := bif Nat.beq f 47 then some (ccFn 43 41) else bif Nat.beq f 14 then some (bsFn 43 41 5) else bif Nat.beq f 12 then some joinFn else none
/-- .. and for all -/
def ext9 (f : Nat) : Option AFun := bif Nat.beq f 91 then some (fmtFn Lib.itoa) else ext0 f
noncomputable def C : ACtx := { P := Tryz.prog, esc := escT, own := fun f => [82, 60].contains f, live := fun f r => findL r (liveL f), ext := fun f => bif Nat.beq f 8 then some (closedFn true) else ext9 f, typed := fun t => t == 43 || t == 41 }
noncomputable def C0 : ACtx := { P := Tryz.prog, esc := escT, own := fun f => [82, 60].contains f, live := fun f r => findL r (liveL f), ext := ext0, typed := fun t => t == 43 || t == 41 }
@[go_sem] theorem C_typed {t : Nat} : C.typed t = (t == 43 || t == 41) := by rfl
@[go_sem] theorem C_P : C.P = Tryz.prog := by rfl
@[go_sem] theorem own_3 : C.own 3 = false := by rfl
@[go_sem] theorem own_4 : C.own 4 = false := by rfl
@[go_sem] theorem own_5 : C.own 5 = false := by rfl
@[go_sem] theorem own_6 : C.own 6 = false := by rfl
@[go_sem] theorem own_7 : C.own 7 = false := by rfl
@[go_sem] theorem own_8 : C.own 8 = false := by rfl
@[go_sem] theorem own_9 : C.own 9 = false := by rfl
@[go_sem] theorem own_10 : C.own 10 = false := by rfl
@[go_sem] theorem own_11 : C.own 11 = false := by rfl
@[go_sem] theorem own_12 : C.own 12 = false := by rfl
@[go_sem] theorem own_13 : C.own 13 = false := by rfl
@[go_sem] theorem own_14 : C.own 14 = false := by rfl
@[go_sem] theorem own_15 : C.own 15 = false := by rfl
@[go_sem] theorem own_16 : C.own 16 = false := by rfl
@[go_sem] theorem own_17 : C.own 17 = false := by rfl
@[go_sem] theorem own_18 : C.own 18 = false := by rfl
@[go_sem] theorem own_19 : C.own 19 = false := by rfl
@[go_sem] theorem own_20 : C.own 20 = false := by rfl
@[go_sem] theorem own_21 : C.own 21 = false := by rfl
@[go_sem] theorem own_22 : C.own 22 = false := by rfl
@[go_sem] theorem own_23 : C.own 23 = false := by rfl
@[go_sem] theorem own_24 : C.own 24 = false := by rfl
@[go_sem] theorem own_25 : C.own 25 = false := by rfl
@[go_sem] theorem own_26 : C.own 26 = false := by rfl
@[go_sem] theorem own_27 : C.own 27 = false := by rfl
@[go_sem] theorem own_28 : C.own 28 = false := by rfl
@[go_sem] theorem own_29 : C.own 29 = false := by rfl
@[go_sem] theorem own_30 : C.own 30 = false := by rfl
@[go_sem] theorem own_31 : C.own 31 = false := by rfl
@[go_sem] theorem own_32 : C.own 32 = false := by rfl
@[go_sem] theorem own_33 : C.own 33 = false := by rfl
@[go_sem] theorem own_34 : C.own 34 = false := by rfl
@[go_sem] theorem own_35 : C.own 35 = false := by rfl
@[go_sem] theorem own_36 : C.own 36 = false := by rfl
@[go_sem] theorem own_37 : C.own 37 = false := by rfl
@[go_sem] theorem own_38 : C.own 38 = false := by rfl
@[go_sem] theorem own_39 : C.own 39 = false := by rfl
@[go_sem] theorem own_40 : C.own 40 = false := by rfl
@[go_sem] theorem own_41 : C.own 41 = false := by rfl
@[go_sem] theorem own_42 : C.own 42 = false := by rfl
@[go_sem] theorem own_43 : C.own 43 = false := by rfl
@[go_sem] theorem own_44 : C.own 44 = false := by rfl
@[go_sem] theorem own_45 : C.own 45 = false := by rfl
@[go_sem] theorem own_46 : C.own 46 = false := by rfl
@[go_sem] theorem own_47 : C.own 47 = false := by rfl
@[go_sem] theorem own_48 : C.own 48 = false := by rfl
@[go_sem] theorem own_49 : C.own 49 = false := by rfl
@[go_sem] theorem own_50 : C.own 50 = false := by rfl
@[go_sem] theorem own_51 : C.own 51 = false := by rfl
@[go_sem] theorem own_52 : C.own 52 = false := by rfl
@[go_sem] theorem own_53 : C.own 53 = false := by rfl
@[go_sem] theorem own_54 : C.own 54 = false := by rfl
@[go_sem] theorem own_55 : C.own 55 = false := by rfl
@[go_sem] theorem own_56 : C.own 56 = false := by rfl
@[go_sem] theorem own_57 : C.own 57 = false := by rfl
@[go_sem] theorem own_58 : C.own 58 = false := by rfl
@[go_sem] theorem own_59 : C.own 59 = false := by rfl
@[go_sem] theorem own_60 : C.own 60 = true := by rfl
@[go_sem] theorem own_61 : C.own 61 = false := by rfl
@[go_sem] theorem own_62 : C.own 62 = false := by rfl
@[go_sem] theorem own_63 : C.own 63 = false := by rfl
@[go_sem] theorem own_64 : C.own 64 = false := by rfl
@[go_sem] theorem own_65 : C.own 65 = false := by rfl
@[go_sem] theorem own_66 : C.own 66 = false := by rfl
@[go_sem] theorem own_67 : C.own 67 = false := by rfl
@[go_sem] theorem own_68 : C.own 68 = false := by rfl
@[go_sem] theorem own_69 : C.own 69 = false := by rfl
@[go_sem] theorem own_70 : C.own 70 = false := by rfl
@[go_sem] theorem own_71 : C.own 71 = false := by rfl
@[go_sem] theorem own_72 : C.own 72 = false := by rfl
@[go_sem] theorem own_73 : C.own 73 = false := by rfl
@[go_sem] theorem own_74 : C.own 74 = false := by rfl
@[go_sem] theorem own_75 : C.own 75 = false := by rfl
@[go_sem] theorem own_76 : C.own 76 = false := by rfl
@[go_sem] theorem own_79 : C.own 79 = false := by rfl
@[go_sem] theorem own_80 : C.own 80 = false := by rfl
@[go_sem] theorem own_81 : C.own 81 = false := by rfl
@[go_sem] theorem own_82 : C.own 82 = true := by rfl
@[go_sem] theorem own_83 : C.own 83 = false := by rfl
@[go_sem] theorem own_84 : C.own 84 = false := by rfl
@[go_sem] theorem own_85 : C.own 85 = false := by rfl
@[go_sem] theorem own_86 : C.own 86 = false := by rfl
@[go_sem] theorem own_87 : C.own 87 = false := by rfl
@[go_sem] theorem own_88 : C.own 88 = false := by rfl
@[go_sem] theorem own_89 : C.own 89 = false := by rfl
@[go_sem] theorem own_90 : C.own 90 = false := by rfl
@[go_sem] theorem own_91 : C.own 91 = false := by rfl
@[go_sem] theorem own_92 : C.own 92 = false := by rfl
@[go_sem] theorem own_93 : C.own 93 = false := by rfl
@[go_sem] theorem own_94 : C.own 94 = false := by rfl
@[go_sem] theorem own_95 : C.own 95 = false := by rfl
@[go_sem] theorem own_96 : C.own 96 = false := by rfl
@[go_sem] theorem own_97 : C.own 97 = false := by rfl
@[go_sem] theorem own_98 : C.own 98 = false := by rfl
@[go_sem] theorem own_99 : C.own 99 = false := by rfl
@[go_sem] theorem own_100 : C.own 100 = false := by rfl
@[go_sem] theorem own_101 : C.own 101 = false := by rfl
@[go_sem] theorem own_102 : C.own 102 = false := by rfl
@[go_sem] theorem own_103 : C.own 103 = false := by rfl
@[go_sem] theorem own_104 : C.own 104 = false := by rfl
@[go_sem] theorem own_105 : C.own 105 = false := by rfl
@[go_sem] theorem own_106 : C.own 106 = false := by rfl
@[go_sem] theorem own_107 : C.own 107 = false := by rfl
@[go_sem] theorem own_108 : C.own 108 = false := by rfl
@[go_sem] theorem own_109 : C.own 109 = false := by rfl
@[go_sem] theorem own_110 : C.own 110 = false := by rfl
@[go_sem] theorem own_111 : C.own 111 = false := by rfl
@[go_sem] theorem own_112 : C.own 112 = false := by rfl
theorem allOk : okL.all (fnOk Tryz.prog) = true := by kernel_rfl
theorem okOf : ∀ f, okL.contains f = true → fnOk Tryz.prog f = true := fun f h => List.all_eq_true.1 allOk f (by simpa using h)
theorem ok (f : FuncId) (h : okL.contains f = true) : fnOk C.P f = true := okOf f h
@[go_sem] theorem esc_3 : C.esc 3 = [] := by kernel_rfl
@[go_sem] theorem live_3_0 : C.live 3 0 = some [0] := by kernel_rfl
@[go_sem] theorem live_3_1 : C.live 3 1 = some [0] := by kernel_rfl
@[go_sem] theorem live_3_2 : C.live 3 2 = some [0, 3] := by kernel_rfl
@[go_sem] theorem live_3_4 : C.live 3 4 = some [0, 3] := by kernel_rfl
@[go_sem] theorem live_3_5 : C.live 3 5 = some [] := by kernel_rfl
@[go_sem] theorem live_3_3 : C.live 3 3 = some [3, 0] := by kernel_rfl
@[go_sem] theorem live_3_6 : C.live 3 6 = some [0] := by kernel_rfl
@[go_sem] theorem esc_4 : C.esc 4 = [29] := by kernel_rfl
@[go_sem] theorem live_4_0 : C.live 4 0 = some [0] := by kernel_rfl
@[go_sem] theorem live_4_1 : C.live 4 1 = some [1] := by kernel_rfl
@[go_sem] theorem live_4_2 : C.live 4 2 = some [] := by kernel_rfl
@[go_sem] theorem live_4_3 : C.live 4 3 = some [1] := by kernel_rfl
@[go_sem] theorem live_4_4 : C.live 4 4 = some [3, 1] := by kernel_rfl
@[go_sem] theorem live_4_5 : C.live 4 5 = some [3, 13, 11, 1, 12] := by kernel_rfl
@[go_sem] theorem live_4_6 : C.live 4 6 = some [3, 13, 11, 1, 12] := by kernel_rfl
@[go_sem] theorem live_4_7 : C.live 4 7 = some [3, 5, 13, 11, 1, 12] := by kernel_rfl
@[go_sem] theorem live_4_8 : C.live 4 8 = some [13, 3, 11, 1, 12] := by kernel_rfl
@[go_sem] theorem live_4_9 : C.live 4 9 = some [3, 1] := by kernel_rfl
@[go_sem] theorem live_4_10 : C.live 4 10 = some [3, 1, 6] := by kernel_rfl
@[go_sem] theorem live_4_11 : C.live 4 11 = some [1, 6] := by kernel_rfl
@[go_sem] theorem live_4_12 : C.live 4 12 = some [6] := by kernel_rfl
@[go_sem] theorem live_4_13 : C.live 4 13 = some [6] := by kernel_rfl
@[go_sem] theorem esc_5 : C.esc 5 = [] := by kernel_rfl
@[go_sem] theorem live_5_0 : C.live 5 0 = some [0] := by kernel_rfl
@[go_sem] theorem live_5_1 : C.live 5 1 = some [1] := by kernel_rfl
@[go_sem] theorem live_5_2 : C.live 5 2 = some [] := by kernel_rfl
@[go_sem] theorem live_5_3 : C.live 5 3 = some [1] := by kernel_rfl
@[go_sem] theorem live_5_4 : C.live 5 4 = some [1, 3] := by kernel_rfl
@[go_sem] theorem live_5_5 : C.live 5 5 = some [3, 4, 1] := by kernel_rfl
@[go_sem] theorem live_5_7 : C.live 5 7 = some [3, 4, 1] := by kernel_rfl
@[go_sem] theorem live_5_8 : C.live 5 8 = some [3, 4, 1] := by kernel_rfl
@[go_sem] theorem live_5_9 : C.live 5 9 = some [3, 4, 1] := by kernel_rfl
@[go_sem] theorem live_5_6 : C.live 5 6 = some [4, 1, 3] := by kernel_rfl
@[go_sem] theorem live_5_10 : C.live 5 10 = some [3, 1] := by kernel_rfl
@[go_sem] theorem esc_6 : C.esc 6 = [] := by kernel_rfl
@[go_sem] theorem live_6_0 : C.live 6 0 = some [0] := by kernel_rfl
@[go_sem] theorem live_6_1 : C.live 6 1 = some [0] := by kernel_rfl
@[go_sem] theorem live_6_2 : C.live 6 2 = some [0, 3] := by kernel_rfl
@[go_sem] theorem live_6_3 : C.live 6 3 = some [8, 7, 9, 3] := by kernel_rfl
@[go_sem] theorem live_6_4 : C.live 6 4 = some [8, 7, 9, 3] := by kernel_rfl
@[go_sem] theorem live_6_5 : C.live 6 5 = some [5, 8, 7, 9, 3] := by kernel_rfl
@[go_sem] theorem live_6_6 : C.live 6 6 = some [8, 7, 9, 6, 3] := by kernel_rfl
@[go_sem] theorem live_6_7 : C.live 6 7 = some [] := by kernel_rfl
@[go_sem] theorem live_6_8 : C.live 6 8 = some [3, 6, 9, 7, 8] := by kernel_rfl
@[go_sem] theorem live_6_9 : C.live 6 9 = some [9, 3, 7, 8] := by kernel_rfl
@[go_sem] theorem live_6_10 : C.live 6 10 = some [3] := by kernel_rfl
@[go_sem] theorem esc_7 : C.esc 7 = [] := by kernel_rfl
@[go_sem] theorem live_7_0 : C.live 7 0 = some [0] := by kernel_rfl
@[go_sem] theorem live_7_1 : C.live 7 1 = some [0] := by kernel_rfl
@[go_sem] theorem live_7_2 : C.live 7 2 = some [3, 0] := by kernel_rfl
@[go_sem] theorem live_7_3 : C.live 7 3 = some [0, 4, 3] := by kernel_rfl
@[go_sem] theorem live_7_5 : C.live 7 5 = some [0, 4, 3] := by kernel_rfl
@[go_sem] theorem live_7_6 : C.live 7 6 = some [0, 4, 5, 3] := by kernel_rfl
@[go_sem] theorem live_7_7 : C.live 7 7 = some [] := by kernel_rfl
@[go_sem] theorem live_7_8 : C.live 7 8 = some [3, 5, 4, 0] := by kernel_rfl
@[go_sem] theorem live_7_9 : C.live 7 9 = some [3, 5, 4, 0] := by kernel_rfl
@[go_sem] theorem live_7_10 : C.live 7 10 = some [3, 5, 4, 0] := by kernel_rfl
@[go_sem] theorem live_7_4 : C.live 7 4 = some [4, 3, 0] := by kernel_rfl
@[go_sem] theorem live_7_11 : C.live 7 11 = some [3] := by kernel_rfl
@[go_sem] theorem esc_8 : C.esc 8 = [] := by kernel_rfl
@[go_sem] theorem live_8_0 : C.live 8 0 = some [] := by kernel_rfl
@[go_sem] theorem live_8_1 : C.live 8 1 = some [] := by kernel_rfl
@[go_sem] theorem live_8_2 : C.live 8 2 = some [1] := by kernel_rfl
@[go_sem] theorem live_8_3 : C.live 8 3 = some [2, 3, 4, 1] := by kernel_rfl
@[go_sem] theorem live_8_4 : C.live 8 4 = some [1, 5, 6] := by kernel_rfl
@[go_sem] theorem live_8_5 : C.live 8 5 = some [7, 8, 1, 5, 6] := by kernel_rfl
@[go_sem] theorem live_8_6 : C.live 8 6 = some [1, 5, 6, 9] := by kernel_rfl
@[go_sem] theorem esc_9 : C.esc 9 = [3] := by kernel_rfl
@[go_sem] theorem live_9_0 : C.live 9 0 = some [0] := by kernel_rfl
@[go_sem] theorem live_9_1 : C.live 9 1 = some [1] := by kernel_rfl
@[go_sem] theorem live_9_2 : C.live 9 2 = some [] := by kernel_rfl
@[go_sem] theorem live_9_3 : C.live 9 3 = some [1] := by kernel_rfl
@[go_sem] theorem live_9_4 : C.live 9 4 = some [1, 3] := by kernel_rfl
@[go_sem] theorem live_9_5 : C.live 9 5 = some [3] := by kernel_rfl
@[go_sem] theorem live_9_6 : C.live 9 6 = some [1, 3] := by kernel_rfl
@[go_sem] theorem live_9_7 : C.live 9 7 = some [4, 3] := by kernel_rfl
@[go_sem] theorem live_9_8 : C.live 9 8 = some [] := by kernel_rfl
@[go_sem] theorem live_9_9 : C.live 9 9 = some [3] := by kernel_rfl
@[go_sem] theorem esc_10 : C.esc 10 = [] := by kernel_rfl
@[go_sem] theorem live_10_0 : C.live 10 0 = some [0] := by kernel_rfl
@[go_sem] theorem live_10_1 : C.live 10 1 = some [0] := by kernel_rfl
@[go_sem] theorem live_10_2 : C.live 10 2 = some [3] := by kernel_rfl
@[go_sem] theorem live_10_4 : C.live 10 4 = some [3] := by kernel_rfl
@[go_sem] theorem live_10_5 : C.live 10 5 = some [] := by kernel_rfl
@[go_sem] theorem live_10_3 : C.live 10 3 = some [] := by kernel_rfl
@[go_sem] theorem live_10_6 : C.live 10 6 = some [] := by kernel_rfl
@[go_sem] theorem esc_11 : C.esc 11 = [] := by kernel_rfl
@[go_sem] theorem live_11_0 : C.live 11 0 = some [0, 1] := by kernel_rfl
@[go_sem] theorem live_11_1 : C.live 11 1 = some [10, 0, 1, 9] := by kernel_rfl
@[go_sem] theorem live_11_2 : C.live 11 2 = some [10, 0, 1, 9] := by kernel_rfl
@[go_sem] theorem live_11_3 : C.live 11 3 = some [10, 0, 1, 9] := by kernel_rfl
@[go_sem] theorem live_11_4 : C.live 11 4 = some [1, 0] := by kernel_rfl
@[go_sem] theorem live_11_5 : C.live 11 5 = some [19, 0, 17, 18] := by kernel_rfl
@[go_sem] theorem live_11_6 : C.live 11 6 = some [19, 0, 17, 18] := by kernel_rfl
@[go_sem] theorem live_11_7 : C.live 11 7 = some [5, 19, 0, 17, 18] := by kernel_rfl
@[go_sem] theorem live_11_8 : C.live 11 8 = some [19, 0, 17, 18] := by kernel_rfl
@[go_sem] theorem live_11_9 : C.live 11 9 = some [0] := by kernel_rfl
@[go_sem] theorem esc_12 : C.esc 12 = [8] := by kernel_rfl
@[go_sem] theorem live_12_0 : C.live 12 0 = some [0, 1] := by kernel_rfl
@[go_sem] theorem live_12_1 : C.live 12 1 = some [0, 1] := by kernel_rfl
@[go_sem] theorem live_12_2 : C.live 12 2 = some [0, 1, 12] := by kernel_rfl
@[go_sem] theorem live_12_4 : C.live 12 4 = some [12, 1, 0] := by kernel_rfl
@[go_sem] theorem live_12_5 : C.live 12 5 = some [0] := by kernel_rfl
@[go_sem] theorem live_12_3 : C.live 12 3 = some [] := by kernel_rfl
@[go_sem] theorem live_12_6 : C.live 12 6 = some [0, 1] := by kernel_rfl
@[go_sem] theorem live_12_7 : C.live 12 7 = some [5, 0, 1] := by kernel_rfl
@[go_sem] theorem live_12_8 : C.live 12 8 = some [5, 0, 1] := by kernel_rfl
@[go_sem] theorem live_12_9 : C.live 12 9 = some [5, 0, 1] := by kernel_rfl
@[go_sem] theorem live_12_10 : C.live 12 10 = some [5, 0, 1] := by kernel_rfl
@[go_sem] theorem live_12_11 : C.live 12 11 = some [5, 0, 1] := by kernel_rfl
@[go_sem] theorem live_12_12 : C.live 12 12 = some [5, 41, 39, 0, 1, 40] := by kernel_rfl
@[go_sem] theorem live_12_13 : C.live 12 13 = some [5, 41, 39, 0, 1, 40] := by kernel_rfl
@[go_sem] theorem live_12_14 : C.live 12 14 = some [5, 7, 41, 39, 0, 1, 40] := by kernel_rfl
@[go_sem] theorem live_12_15 : C.live 12 15 = some [5, 7, 41, 39, 0, 1, 40] := by kernel_rfl
@[go_sem] theorem live_12_16 : C.live 12 16 = some [5, 7, 41, 39, 0, 1, 40] := by kernel_rfl
@[go_sem] theorem live_12_17 : C.live 12 17 = some [41, 5, 39, 0, 1, 40] := by kernel_rfl
@[go_sem] theorem live_12_18 : C.live 12 18 = some [5, 0, 1] := by kernel_rfl
@[go_sem] theorem live_12_19 : C.live 12 19 = some [5, 0, 8, 1] := by kernel_rfl
@[go_sem] theorem live_12_20 : C.live 12 20 = some [0, 8, 1] := by kernel_rfl
@[go_sem] theorem live_12_21 : C.live 12 21 = some [0, 8, 1] := by kernel_rfl
@[go_sem] theorem live_12_22 : C.live 12 22 = some [65, 8, 1, 63, 64] := by kernel_rfl
@[go_sem] theorem live_12_23 : C.live 12 23 = some [65, 8, 1, 63, 64] := by kernel_rfl
@[go_sem] theorem live_12_24 : C.live 12 24 = some [10, 65, 8, 1, 63, 64] := by kernel_rfl
@[go_sem] theorem live_12_25 : C.live 12 25 = some [10, 65, 8, 1, 63, 64] := by kernel_rfl
@[go_sem] theorem live_12_26 : C.live 12 26 = some [65, 8, 1, 63, 64] := by kernel_rfl
@[go_sem] theorem live_12_27 : C.live 12 27 = some [8] := by kernel_rfl
@[go_sem] theorem esc_13 : C.esc 13 = [] := by kernel_rfl
@[go_sem] theorem live_13_0 : C.live 13 0 = some [1, 0] := by kernel_rfl
@[go_sem] theorem live_13_1 : C.live 13 1 = some [1, 0] := by kernel_rfl
@[go_sem] theorem live_13_2 : C.live 13 2 = some [16, 0, 14, 15] := by kernel_rfl
@[go_sem] theorem live_13_3 : C.live 13 3 = some [16, 0, 14, 15] := by kernel_rfl
@[go_sem] theorem live_13_4 : C.live 13 4 = some [5, 16, 0, 14, 15] := by kernel_rfl
@[go_sem] theorem live_13_5 : C.live 13 5 = some [6, 5, 16, 0, 14, 15] := by kernel_rfl
@[go_sem] theorem live_13_6 : C.live 13 6 = some [16, 0, 14, 15] := by kernel_rfl
@[go_sem] theorem live_13_7 : C.live 13 7 = some [0] := by kernel_rfl
@[go_sem] theorem esc_14 : C.esc 14 = [] := by kernel_rfl
@[go_sem] theorem live_14_0 : C.live 14 0 = some [0] := by kernel_rfl
@[go_sem] theorem live_14_1 : C.live 14 1 = some [0] := by kernel_rfl
@[go_sem] theorem esc_15 : C.esc 15 = [] := by kernel_rfl
@[go_sem] theorem live_15_0 : C.live 15 0 = some [0] := by kernel_rfl
@[go_sem] theorem live_15_1 : C.live 15 1 = some [1] := by kernel_rfl
@[go_sem] theorem live_15_2 : C.live 15 2 = some [] := by kernel_rfl
@[go_sem] theorem live_15_3 : C.live 15 3 = some [1] := by kernel_rfl
@[go_sem] theorem live_15_4 : C.live 15 4 = some [1, 3] := by kernel_rfl
@[go_sem] theorem live_15_5 : C.live 15 5 = some [3] := by kernel_rfl
@[go_sem] theorem live_15_6 : C.live 15 6 = some [1] := by kernel_rfl
@[go_sem] theorem live_15_7 : C.live 15 7 = some [4] := by kernel_rfl
@[go_sem] theorem live_15_8 : C.live 15 8 = some [4, 5] := by kernel_rfl
@[go_sem] theorem live_15_10 : C.live 15 10 = some [4, 5] := by kernel_rfl
@[go_sem] theorem live_15_11 : C.live 15 11 = some [4, 5] := by kernel_rfl
@[go_sem] theorem live_15_12 : C.live 15 12 = some [4, 5, 6] := by kernel_rfl
@[go_sem] theorem live_15_13 : C.live 15 13 = some [6] := by kernel_rfl
@[go_sem] theorem live_15_9 : C.live 15 9 = some [5, 4] := by kernel_rfl
@[go_sem] theorem live_15_14 : C.live 15 14 = some [4] := by kernel_rfl
@[go_sem] theorem live_15_15 : C.live 15 15 = some [] := by kernel_rfl
@[go_sem] theorem live_15_16 : C.live 15 16 = some [] := by kernel_rfl
@[go_sem] theorem esc_16 : C.esc 16 = [] := by kernel_rfl
@[go_sem] theorem live_16_0 : C.live 16 0 = some [0] := by kernel_rfl
@[go_sem] theorem live_16_1 : C.live 16 1 = some [0] := by kernel_rfl
@[go_sem] theorem live_16_2 : C.live 16 2 = some [3] := by kernel_rfl
@[go_sem] theorem live_16_4 : C.live 16 4 = some [3] := by kernel_rfl
@[go_sem] theorem live_16_5 : C.live 16 5 = some [] := by kernel_rfl
@[go_sem] theorem live_16_3 : C.live 16 3 = some [] := by kernel_rfl
@[go_sem] theorem live_16_6 : C.live 16 6 = some [] := by kernel_rfl
@[go_sem] theorem esc_17 : C.esc 17 = [] := by kernel_rfl
@[go_sem] theorem live_17_0 : C.live 17 0 = some [1, 0] := by kernel_rfl
@[go_sem] theorem live_17_1 : C.live 17 1 = some [1, 0] := by kernel_rfl
@[go_sem] theorem live_17_2 : C.live 17 2 = some [1, 0, 5] := by kernel_rfl
@[go_sem] theorem live_17_3 : C.live 17 3 = some [5, 6, 1, 0] := by kernel_rfl
@[go_sem] theorem live_17_5 : C.live 17 5 = some [5, 6, 1, 0] := by kernel_rfl
@[go_sem] theorem live_17_4 : C.live 17 4 = some [6, 1, 0, 5] := by kernel_rfl
@[go_sem] theorem live_17_6 : C.live 17 6 = some [5] := by kernel_rfl
@[go_sem] theorem esc_18 : C.esc 18 = [] := by kernel_rfl
@[go_sem] theorem live_18_0 : C.live 18 0 = some [0, 1] := by kernel_rfl
@[go_sem] theorem live_18_1 : C.live 18 1 = some [0, 1, 4] := by kernel_rfl
@[go_sem] theorem esc_19 : C.esc 19 = [] := by kernel_rfl
@[go_sem] theorem live_19_0 : C.live 19 0 = some [0] := by kernel_rfl
@[go_sem] theorem live_19_1 : C.live 19 1 = some [0, 2] := by kernel_rfl
@[go_sem] theorem esc_20 : C.esc 20 = [] := by kernel_rfl
@[go_sem] theorem live_20_0 : C.live 20 0 = some [0] := by kernel_rfl
@[go_sem] theorem live_20_1 : C.live 20 1 = some [0, 2] := by kernel_rfl
@[go_sem] theorem esc_21 : C.esc 21 = [] := by kernel_rfl
@[go_sem] theorem live_21_0 : C.live 21 0 = some [0] := by kernel_rfl
@[go_sem] theorem live_21_1 : C.live 21 1 = some [1] := by kernel_rfl
@[go_sem] theorem live_21_2 : C.live 21 2 = some [] := by kernel_rfl
@[go_sem] theorem live_21_3 : C.live 21 3 = some [1] := by kernel_rfl
@[go_sem] theorem esc_22 : C.esc 22 = [] := by kernel_rfl
@[go_sem] theorem live_22_0 : C.live 22 0 = some [0] := by kernel_rfl
@[go_sem] theorem live_22_1 : C.live 22 1 = some [0] := by kernel_rfl
@[go_sem] theorem esc_23 : C.esc 23 = [4] := by kernel_rfl
@[go_sem] theorem live_23_0 : C.live 23 0 = some [0] := by kernel_rfl
@[go_sem] theorem live_23_1 : C.live 23 1 = some [0] := by kernel_rfl
@[go_sem] theorem live_23_2 : C.live 23 2 = some [] := by kernel_rfl
@[go_sem] theorem live_23_3 : C.live 23 3 = some [0] := by kernel_rfl
@[go_sem] theorem live_23_4 : C.live 23 4 = some [9, 8, 0, 10] := by kernel_rfl
@[go_sem] theorem live_23_5 : C.live 23 5 = some [9, 8, 0, 10] := by kernel_rfl
@[go_sem] theorem live_23_6 : C.live 23 6 = some [3, 4, 9, 8, 0, 10] := by kernel_rfl
@[go_sem] theorem live_23_8 : C.live 23 8 = some [10, 0, 8, 9, 4, 3] := by kernel_rfl
@[go_sem] theorem live_23_10 : C.live 23 10 = some [3, 4, 9, 8, 0, 10] := by kernel_rfl
@[go_sem] theorem live_23_11 : C.live 23 11 = some [] := by kernel_rfl
@[go_sem] theorem live_23_9 : C.live 23 9 = some [] := by kernel_rfl
@[go_sem] theorem live_23_7 : C.live 23 7 = some [] := by kernel_rfl
@[go_sem] theorem live_23_12 : C.live 23 12 = some [10, 0, 8, 9] := by kernel_rfl
@[go_sem] theorem live_23_13 : C.live 23 13 = some [] := by kernel_rfl
@[go_sem] theorem esc_24 : C.esc 24 = [11] := by kernel_rfl
@[go_sem] theorem live_24_0 : C.live 24 0 = some [0, 1, 2] := by kernel_rfl
@[go_sem] theorem live_24_1 : C.live 24 1 = some [1, 2, 3] := by kernel_rfl
@[go_sem] theorem live_24_2 : C.live 24 2 = some [3, 7] := by kernel_rfl
@[go_sem] theorem live_24_3 : C.live 24 3 = some [7] := by kernel_rfl
@[go_sem] theorem esc_25 : C.esc 25 = [] := by kernel_rfl
@[go_sem] theorem live_25_0 : C.live 25 0 = some [0, 1, 2] := by kernel_rfl
@[go_sem] theorem live_25_1 : C.live 25 1 = some [3, 1, 2] := by kernel_rfl
@[go_sem] theorem live_25_2 : C.live 25 2 = some [3, 1, 2] := by kernel_rfl
@[go_sem] theorem esc_26 : C.esc 26 = [] := by kernel_rfl
@[go_sem] theorem live_26_0 : C.live 26 0 = some [0, 1] := by kernel_rfl
@[go_sem] theorem live_26_1 : C.live 26 1 = some [1, 2] := by kernel_rfl
@[go_sem] theorem live_26_2 : C.live 26 2 = some [6, 1, 2, 5] := by kernel_rfl
@[go_sem] theorem live_26_3 : C.live 26 3 = some [] := by kernel_rfl
@[go_sem] theorem live_26_4 : C.live 26 4 = some [5, 2, 1] := by kernel_rfl
@[go_sem] theorem live_26_5 : C.live 26 5 = some [] := by kernel_rfl
@[go_sem] theorem live_26_6 : C.live 26 6 = some [1, 2, 5] := by kernel_rfl
@[go_sem] theorem live_26_7 : C.live 26 7 = some [1, 2, 5] := by kernel_rfl
@[go_sem] theorem live_26_8 : C.live 26 8 = some [1, 2, 5, 7] := by kernel_rfl
@[go_sem] theorem live_26_9 : C.live 26 9 = some [7] := by kernel_rfl
@[go_sem] theorem live_26_10 : C.live 26 10 = some [5, 2, 1] := by kernel_rfl
@[go_sem] theorem live_26_11 : C.live 26 11 = some [2, 1] := by kernel_rfl
@[go_sem] theorem live_26_12 : C.live 26 12 = some [1, 8] := by kernel_rfl
@[go_sem] theorem live_26_13 : C.live 26 13 = some [8] := by kernel_rfl
@[go_sem] theorem live_26_14 : C.live 26 14 = some [1] := by kernel_rfl
@[go_sem] theorem live_26_15 : C.live 26 15 = some [] := by kernel_rfl
@[go_sem] theorem live_26_16 : C.live 26 16 = some [] := by kernel_rfl
@[go_sem] theorem esc_27 : C.esc 27 = [] := by kernel_rfl
@[go_sem] theorem live_27_0 : C.live 27 0 = some [0] := by kernel_rfl
@[go_sem] theorem esc_28 : C.esc 28 = [] := by kernel_rfl
@[go_sem] theorem live_28_0 : C.live 28 0 = some [0, 1] := by kernel_rfl
@[go_sem] theorem live_28_1 : C.live 28 1 = some [0, 1] := by kernel_rfl
@[go_sem] theorem live_28_2 : C.live 28 2 = some [0, 1] := by kernel_rfl
@[go_sem] theorem live_28_3 : C.live 28 3 = some [1] := by kernel_rfl
@[go_sem] theorem esc_29 : C.esc 29 = [] := by kernel_rfl
@[go_sem] theorem live_29_0 : C.live 29 0 = some [0, 1] := by kernel_rfl
@[go_sem] theorem live_29_1 : C.live 29 1 = some [0, 1] := by kernel_rfl
@[go_sem] theorem live_29_2 : C.live 29 2 = some [0, 1] := by kernel_rfl
@[go_sem] theorem live_29_3 : C.live 29 3 = some [] := by kernel_rfl
@[go_sem] theorem esc_30 : C.esc 30 = [] := by kernel_rfl
@[go_sem] theorem live_30_0 : C.live 30 0 = some [0, 1] := by kernel_rfl
@[go_sem] theorem live_30_1 : C.live 30 1 = some [0, 1] := by kernel_rfl
@[go_sem] theorem live_30_2 : C.live 30 2 = some [0, 1] := by kernel_rfl
@[go_sem] theorem live_30_3 : C.live 30 3 = some [0, 1] := by kernel_rfl
@[go_sem] theorem live_30_4 : C.live 30 4 = some [0, 1] := by kernel_rfl
@[go_sem] theorem esc_31 : C.esc 31 = [] := by kernel_rfl
@[go_sem] theorem live_31_0 : C.live 31 0 = some [0] := by kernel_rfl
@[go_sem] theorem live_31_1 : C.live 31 1 = some [0] := by kernel_rfl
@[go_sem] theorem live_31_2 : C.live 31 2 = some [3] := by kernel_rfl
@[go_sem] theorem live_31_4 : C.live 31 4 = some [3] := by kernel_rfl
@[go_sem] theorem live_31_6 : C.live 31 6 = some [3] := by kernel_rfl
@[go_sem] theorem live_31_8 : C.live 31 8 = some [3] := by kernel_rfl
@[go_sem] theorem live_31_10 : C.live 31 10 = some [3] := by kernel_rfl
@[go_sem] theorem live_31_12 : C.live 31 12 = some [3] := by kernel_rfl
@[go_sem] theorem live_31_14 : C.live 31 14 = some [3] := by kernel_rfl
@[go_sem] theorem live_31_15 : C.live 31 15 = some [] := by kernel_rfl
@[go_sem] theorem live_31_13 : C.live 31 13 = some [] := by kernel_rfl
@[go_sem] theorem live_31_11 : C.live 31 11 = some [] := by kernel_rfl
@[go_sem] theorem live_31_9 : C.live 31 9 = some [] := by kernel_rfl
@[go_sem] theorem live_31_7 : C.live 31 7 = some [] := by kernel_rfl
@[go_sem] theorem live_31_5 : C.live 31 5 = some [] := by kernel_rfl
@[go_sem] theorem live_31_3 : C.live 31 3 = some [] := by kernel_rfl
@[go_sem] theorem live_31_16 : C.live 31 16 = some [] := by kernel_rfl
@[go_sem] theorem esc_32 : C.esc 32 = [] := by kernel_rfl
@[go_sem] theorem live_32_0 : C.live 32 0 = some [0] := by kernel_rfl
@[go_sem] theorem live_32_1 : C.live 32 1 = some [0] := by kernel_rfl
@[go_sem] theorem esc_33 : C.esc 33 = [] := by kernel_rfl
@[go_sem] theorem live_33_0 : C.live 33 0 = some [0] := by kernel_rfl
@[go_sem] theorem live_33_1 : C.live 33 1 = some [0] := by kernel_rfl
@[go_sem] theorem live_33_2 : C.live 33 2 = some [] := by kernel_rfl
@[go_sem] theorem live_33_3 : C.live 33 3 = some [0] := by kernel_rfl
@[go_sem] theorem live_33_4 : C.live 33 4 = some [3, 0] := by kernel_rfl
@[go_sem] theorem live_33_6 : C.live 33 6 = some [3, 0] := by kernel_rfl
@[go_sem] theorem live_33_7 : C.live 33 7 = some [] := by kernel_rfl
@[go_sem] theorem live_33_8 : C.live 33 8 = some [0, 3] := by kernel_rfl
@[go_sem] theorem live_33_9 : C.live 33 9 = some [] := by kernel_rfl
@[go_sem] theorem live_33_10 : C.live 33 10 = some [3, 0] := by kernel_rfl
@[go_sem] theorem live_33_11 : C.live 33 11 = some [0, 3, 4] := by kernel_rfl
@[go_sem] theorem live_33_13 : C.live 33 13 = some [0, 3, 4] := by kernel_rfl
@[go_sem] theorem live_33_14 : C.live 33 14 = some [] := by kernel_rfl
@[go_sem] theorem live_33_12 : C.live 33 12 = some [4, 3, 0] := by kernel_rfl
@[go_sem] theorem live_33_5 : C.live 33 5 = some [3, 0] := by kernel_rfl
@[go_sem] theorem live_33_15 : C.live 33 15 = some [] := by kernel_rfl
@[go_sem] theorem esc_34 : C.esc 34 = [] := by kernel_rfl
@[go_sem] theorem live_34_0 : C.live 34 0 = some [0] := by kernel_rfl
@[go_sem] theorem live_34_1 : C.live 34 1 = some [1] := by kernel_rfl
@[go_sem] theorem esc_35 : C.esc 35 = [] := by kernel_rfl
@[go_sem] theorem live_35_0 : C.live 35 0 = some [0, 1] := by kernel_rfl
@[go_sem] theorem live_35_1 : C.live 35 1 = some [2, 1] := by kernel_rfl
@[go_sem] theorem live_35_2 : C.live 35 2 = some [6, 9, 10, 5, 8, 2, 1, 7] := by kernel_rfl
@[go_sem] theorem live_35_3 : C.live 35 3 = some [] := by kernel_rfl
@[go_sem] theorem live_35_4 : C.live 35 4 = some [7, 1, 2, 8, 5] := by kernel_rfl
@[go_sem] theorem live_35_5 : C.live 35 5 = some [] := by kernel_rfl
@[go_sem] theorem live_35_6 : C.live 35 6 = some [5, 8, 2, 1, 7] := by kernel_rfl
@[go_sem] theorem live_35_7 : C.live 35 7 = some [] := by kernel_rfl
@[go_sem] theorem live_35_8 : C.live 35 8 = some [7, 1, 2, 8] := by kernel_rfl
@[go_sem] theorem live_35_9 : C.live 35 9 = some [1, 2, 8] := by kernel_rfl
@[go_sem] theorem live_35_10 : C.live 35 10 = some [1, 2, 8, 11] := by kernel_rfl
@[go_sem] theorem live_35_11 : C.live 35 11 = some [11] := by kernel_rfl
@[go_sem] theorem live_35_12 : C.live 35 12 = some [8, 2, 1] := by kernel_rfl
@[go_sem] theorem live_35_13 : C.live 35 13 = some [2, 1] := by kernel_rfl
@[go_sem] theorem live_35_14 : C.live 35 14 = some [1, 12] := by kernel_rfl
@[go_sem] theorem live_35_15 : C.live 35 15 = some [12] := by kernel_rfl
@[go_sem] theorem live_35_16 : C.live 35 16 = some [1] := by kernel_rfl
@[go_sem] theorem live_35_17 : C.live 35 17 = some [] := by kernel_rfl
@[go_sem] theorem live_35_18 : C.live 35 18 = some [] := by kernel_rfl
@[go_sem] theorem esc_36 : C.esc 36 = [] := by kernel_rfl
@[go_sem] theorem live_36_0 : C.live 36 0 = some [0, 1] := by kernel_rfl
@[go_sem] theorem live_36_1 : C.live 36 1 = some [1, 2] := by kernel_rfl
@[go_sem] theorem live_36_2 : C.live 36 2 = some [1, 5, 2] := by kernel_rfl
@[go_sem] theorem live_36_3 : C.live 36 3 = some [10, 1, 5, 2] := by kernel_rfl
@[go_sem] theorem live_36_5 : C.live 36 5 = some [1, 10, 5, 2] := by kernel_rfl
@[go_sem] theorem live_36_7 : C.live 36 7 = some [10, 1, 5, 2] := by kernel_rfl
@[go_sem] theorem live_36_9 : C.live 36 9 = some [1, 10, 5, 2] := by kernel_rfl
@[go_sem] theorem live_36_11 : C.live 36 11 = some [10, 1, 5, 2] := by kernel_rfl
@[go_sem] theorem live_36_13 : C.live 36 13 = some [1, 10, 5, 2] := by kernel_rfl
@[go_sem] theorem live_36_15 : C.live 36 15 = some [10, 2, 1, 5] := by kernel_rfl
@[go_sem] theorem live_36_16 : C.live 36 16 = some [2, 1, 5] := by kernel_rfl
@[go_sem] theorem live_36_14 : C.live 36 14 = some [5, 2] := by kernel_rfl
@[go_sem] theorem live_36_12 : C.live 36 12 = some [5, 2] := by kernel_rfl
@[go_sem] theorem live_36_10 : C.live 36 10 = some [5, 2] := by kernel_rfl
@[go_sem] theorem live_36_8 : C.live 36 8 = some [5, 2] := by kernel_rfl
@[go_sem] theorem live_36_6 : C.live 36 6 = some [5, 2] := by kernel_rfl
@[go_sem] theorem live_36_4 : C.live 36 4 = some [5, 2] := by kernel_rfl
@[go_sem] theorem live_36_17 : C.live 36 17 = some [2, 1, 5] := by kernel_rfl
@[go_sem] theorem live_36_18 : C.live 36 18 = some [6, 2, 1, 5] := by kernel_rfl
@[go_sem] theorem live_36_19 : C.live 36 19 = some [6, 2, 1, 5] := by kernel_rfl
@[go_sem] theorem live_36_20 : C.live 36 20 = some [6] := by kernel_rfl
@[go_sem] theorem esc_37 : C.esc 37 = [] := by kernel_rfl
@[go_sem] theorem live_37_0 : C.live 37 0 = some [0] := by kernel_rfl
@[go_sem] theorem live_37_1 : C.live 37 1 = some [1] := by kernel_rfl
@[go_sem] theorem esc_38 : C.esc 38 = [] := by kernel_rfl
@[go_sem] theorem live_38_0 : C.live 38 0 = some [0] := by kernel_rfl
@[go_sem] theorem live_38_1 : C.live 38 1 = some [1] := by kernel_rfl
@[go_sem] theorem live_38_2 : C.live 38 2 = some [3, 1] := by kernel_rfl
@[go_sem] theorem live_38_4 : C.live 38 4 = some [3, 1] := by kernel_rfl
@[go_sem] theorem live_38_7 : C.live 38 7 = some [3, 1] := by kernel_rfl
@[go_sem] theorem live_38_9 : C.live 38 9 = some [1, 3] := by kernel_rfl
@[go_sem] theorem live_38_11 : C.live 38 11 = some [1, 3] := by kernel_rfl
@[go_sem] theorem live_38_13 : C.live 38 13 = some [3, 1] := by kernel_rfl
@[go_sem] theorem live_38_15 : C.live 38 15 = some [3, 1] := by kernel_rfl
@[go_sem] theorem live_38_17 : C.live 38 17 = some [3, 1] := by kernel_rfl
@[go_sem] theorem live_38_18 : C.live 38 18 = some [1] := by kernel_rfl
@[go_sem] theorem live_38_16 : C.live 38 16 = some [1] := by kernel_rfl
@[go_sem] theorem live_38_14 : C.live 38 14 = some [1] := by kernel_rfl
@[go_sem] theorem live_38_12 : C.live 38 12 = some [1, 3] := by kernel_rfl
@[go_sem] theorem live_38_10 : C.live 38 10 = some [1, 3] := by kernel_rfl
@[go_sem] theorem live_38_8 : C.live 38 8 = some [1] := by kernel_rfl
@[go_sem] theorem live_38_5 : C.live 38 5 = some [1] := by kernel_rfl
@[go_sem] theorem live_38_6 : C.live 38 6 = some [4] := by kernel_rfl
@[go_sem] theorem live_38_3 : C.live 38 3 = some [1] := by kernel_rfl
@[go_sem] theorem live_38_19 : C.live 38 19 = some [1, 3] := by kernel_rfl
@[go_sem] theorem esc_39 : C.esc 39 = [] := by kernel_rfl
@[go_sem] theorem live_39_0 : C.live 39 0 = some [0] := by kernel_rfl
@[go_sem] theorem live_39_1 : C.live 39 1 = some [0] := by kernel_rfl
@[go_sem] theorem esc_40 : C.esc 40 = [] := by kernel_rfl
@[go_sem] theorem live_40_0 : C.live 40 0 = some [0] := by kernel_rfl
@[go_sem] theorem live_40_1 : C.live 40 1 = some [0] := by kernel_rfl
@[go_sem] theorem live_40_2 : C.live 40 2 = some [6, 0] := by kernel_rfl
@[go_sem] theorem live_40_3 : C.live 40 3 = some [7, 6, 0] := by kernel_rfl
@[go_sem] theorem live_40_4 : C.live 40 4 = some [4, 6, 0, 3] := by kernel_rfl
@[go_sem] theorem live_40_5 : C.live 40 5 = some [3] := by kernel_rfl
@[go_sem] theorem live_40_6 : C.live 40 6 = some [0] := by kernel_rfl
@[go_sem] theorem esc_41 : C.esc 41 = [] := by kernel_rfl
@[go_sem] theorem live_41_0 : C.live 41 0 = some [0] := by kernel_rfl
@[go_sem] theorem live_41_1 : C.live 41 1 = some [0] := by kernel_rfl
@[go_sem] theorem live_41_2 : C.live 41 2 = some [3] := by kernel_rfl
@[go_sem] theorem live_41_3 : C.live 41 3 = some [3] := by kernel_rfl
@[go_sem] theorem live_41_4 : C.live 41 4 = some [3] := by kernel_rfl
@[go_sem] theorem live_41_5 : C.live 41 5 = some [3] := by kernel_rfl
@[go_sem] theorem live_41_6 : C.live 41 6 = some [3] := by kernel_rfl
@[go_sem] theorem live_41_7 : C.live 41 7 = some [3] := by kernel_rfl
@[go_sem] theorem live_41_8 : C.live 41 8 = some [3] := by kernel_rfl
@[go_sem] theorem live_41_9 : C.live 41 9 = some [3] := by kernel_rfl
@[go_sem] theorem live_41_10 : C.live 41 10 = some [3] := by kernel_rfl
@[go_sem] theorem live_41_11 : C.live 41 11 = some [3] := by kernel_rfl
@[go_sem] theorem live_41_12 : C.live 41 12 = some [3] := by kernel_rfl
@[go_sem] theorem live_41_13 : C.live 41 13 = some [3] := by kernel_rfl
@[go_sem] theorem live_41_14 : C.live 41 14 = some [3] := by kernel_rfl
@[go_sem] theorem live_41_15 : C.live 41 15 = some [3] := by kernel_rfl
@[go_sem] theorem live_41_16 : C.live 41 16 = some [3] := by kernel_rfl
@[go_sem] theorem live_41_17 : C.live 41 17 = some [3] := by kernel_rfl
@[go_sem] theorem live_41_18 : C.live 41 18 = some [3] := by kernel_rfl
@[go_sem] theorem live_41_19 : C.live 41 19 = some [3] := by kernel_rfl
@[go_sem] theorem live_41_20 : C.live 41 20 = some [3] := by kernel_rfl
@[go_sem] theorem live_41_21 : C.live 41 21 = some [3] := by kernel_rfl
@[go_sem] theorem live_41_22 : C.live 41 22 = some [3] := by kernel_rfl
@[go_sem] theorem live_41_23 : C.live 41 23 = some [3] := by kernel_rfl
@[go_sem] theorem live_41_24 : C.live 41 24 = some [3] := by kernel_rfl
@[go_sem] theorem live_41_25 : C.live 41 25 = some [3] := by kernel_rfl
@[go_sem] theorem live_41_26 : C.live 41 26 = some [3] := by kernel_rfl
@[go_sem] theorem live_41_27 : C.live 41 27 = some [] := by kernel_rfl
@[go_sem] theorem live_41_28 : C.live 41 28 = some [] := by kernel_rfl
@[go_sem] theorem esc_42 : C.esc 42 = [] := by kernel_rfl
@[go_sem] theorem live_42_0 : C.live 42 0 = some [0, 1] := by kernel_rfl
@[go_sem] theorem live_42_1 : C.live 42 1 = some [0, 1] := by kernel_rfl
@[go_sem] theorem esc_43 : C.esc 43 = [] := by kernel_rfl
@[go_sem] theorem live_43_0 : C.live 43 0 = some [0, 1] := by kernel_rfl
@[go_sem] theorem live_43_1 : C.live 43 1 = some [2, 1] := by kernel_rfl
@[go_sem] theorem esc_44 : C.esc 44 = [] := by kernel_rfl
@[go_sem] theorem live_44_0 : C.live 44 0 = some [1, 0, 2] := by kernel_rfl
@[go_sem] theorem live_44_1 : C.live 44 1 = some [9, 8, 2, 0, 10] := by kernel_rfl
@[go_sem] theorem live_44_2 : C.live 44 2 = some [9, 8, 2, 0, 10] := by kernel_rfl
@[go_sem] theorem live_44_3 : C.live 44 3 = some [9, 8, 2, 0, 10, 7] := by kernel_rfl
@[go_sem] theorem live_44_4 : C.live 44 4 = some [7, 10, 0, 2, 8, 9] := by kernel_rfl
@[go_sem] theorem live_44_5 : C.live 44 5 = some [7, 10, 0, 2, 8, 9] := by kernel_rfl
@[go_sem] theorem live_44_6 : C.live 44 6 = some [7, 10, 0, 2, 8, 9] := by kernel_rfl
@[go_sem] theorem live_44_7 : C.live 44 7 = some [7, 10, 0, 2, 8, 9] := by kernel_rfl
@[go_sem] theorem live_44_8 : C.live 44 8 = some [7, 10, 0, 2, 8, 9] := by kernel_rfl
@[go_sem] theorem live_44_9 : C.live 44 9 = some [7, 10, 0, 2, 8, 9] := by kernel_rfl
@[go_sem] theorem live_44_10 : C.live 44 10 = some [10, 0, 2, 8, 9] := by kernel_rfl
@[go_sem] theorem esc_45 : C.esc 45 = [] := by kernel_rfl
@[go_sem] theorem live_45_0 : C.live 45 0 = some [0] := by kernel_rfl
@[go_sem] theorem live_45_1 : C.live 45 1 = some [0, 2] := by kernel_rfl
@[go_sem] theorem live_45_2 : C.live 45 2 = some [4, 2] := by kernel_rfl
@[go_sem] theorem live_45_3 : C.live 45 3 = some [4, 2] := by kernel_rfl
@[go_sem] theorem live_45_5 : C.live 45 5 = some [4, 2] := by kernel_rfl
@[go_sem] theorem live_45_7 : C.live 45 7 = some [4, 2] := by kernel_rfl
@[go_sem] theorem live_45_8 : C.live 45 8 = some [4, 2] := by kernel_rfl
@[go_sem] theorem live_45_10 : C.live 45 10 = some [4, 2] := by kernel_rfl
@[go_sem] theorem live_45_12 : C.live 45 12 = some [4, 2] := by kernel_rfl
@[go_sem] theorem live_45_14 : C.live 45 14 = some [4, 2] := by kernel_rfl
@[go_sem] theorem live_45_15 : C.live 45 15 = some [2] := by kernel_rfl
@[go_sem] theorem live_45_13 : C.live 45 13 = some [2] := by kernel_rfl
@[go_sem] theorem live_45_11 : C.live 45 11 = some [2] := by kernel_rfl
@[go_sem] theorem live_45_9 : C.live 45 9 = some [2] := by kernel_rfl
@[go_sem] theorem live_45_6 : C.live 45 6 = some [2] := by kernel_rfl
@[go_sem] theorem live_45_4 : C.live 45 4 = some [2] := by kernel_rfl
@[go_sem] theorem live_45_16 : C.live 45 16 = some [2] := by kernel_rfl
@[go_sem] theorem esc_46 : C.esc 46 = [] := by kernel_rfl
@[go_sem] theorem live_46_0 : C.live 46 0 = some [0, 1] := by kernel_rfl
@[go_sem] theorem live_46_1 : C.live 46 1 = some [3, 2] := by kernel_rfl
@[go_sem] theorem live_46_2 : C.live 46 2 = some [] := by kernel_rfl
@[go_sem] theorem live_46_3 : C.live 46 3 = some [2] := by kernel_rfl
@[go_sem] theorem live_46_4 : C.live 46 4 = some [68, 2] := by kernel_rfl
@[go_sem] theorem live_46_6 : C.live 46 6 = some [68, 2] := by kernel_rfl
@[go_sem] theorem live_46_7 : C.live 46 7 = some [2] := by kernel_rfl
@[go_sem] theorem live_46_5 : C.live 46 5 = some [2] := by kernel_rfl
@[go_sem] theorem live_46_8 : C.live 46 8 = some [] := by kernel_rfl
@[go_sem] theorem esc_47 : C.esc 47 = [] := by kernel_rfl
@[go_sem] theorem live_47_0 : C.live 47 0 = some [0] := by kernel_rfl
@[go_sem] theorem live_47_2 : C.live 47 2 = some [0] := by kernel_rfl
@[go_sem] theorem live_47_1 : C.live 47 1 = some [0] := by kernel_rfl
@[go_sem] theorem esc_48 : C.esc 48 = [] := by kernel_rfl
@[go_sem] theorem live_48_0 : C.live 48 0 = some [1, 0] := by kernel_rfl
@[go_sem] theorem live_48_1 : C.live 48 1 = some [0, 4] := by kernel_rfl
@[go_sem] theorem live_48_2 : C.live 48 2 = some [0, 4] := by kernel_rfl
@[go_sem] theorem esc_49 : C.esc 49 = [] := by kernel_rfl
@[go_sem] theorem live_49_0 : C.live 49 0 = some [1, 0] := by kernel_rfl
@[go_sem] theorem live_49_1 : C.live 49 1 = some [0, 3] := by kernel_rfl
@[go_sem] theorem esc_50 : C.esc 50 = [] := by kernel_rfl
@[go_sem] theorem live_50_0 : C.live 50 0 = some [1, 0] := by kernel_rfl
@[go_sem] theorem live_50_1 : C.live 50 1 = some [0, 3] := by kernel_rfl
@[go_sem] theorem esc_51 : C.esc 51 = [] := by kernel_rfl
@[go_sem] theorem live_51_0 : C.live 51 0 = some [1, 0] := by kernel_rfl
@[go_sem] theorem live_51_1 : C.live 51 1 = some [0, 3] := by kernel_rfl
@[go_sem] theorem esc_52 : C.esc 52 = [] := by kernel_rfl
@[go_sem] theorem live_52_0 : C.live 52 0 = some [1, 0] := by kernel_rfl
@[go_sem] theorem live_52_1 : C.live 52 1 = some [0, 3] := by kernel_rfl
@[go_sem] theorem esc_53 : C.esc 53 = [] := by kernel_rfl
@[go_sem] theorem live_53_0 : C.live 53 0 = some [1, 0] := by kernel_rfl
@[go_sem] theorem live_53_1 : C.live 53 1 = some [3, 0] := by kernel_rfl
@[go_sem] theorem live_53_2 : C.live 53 2 = some [3, 0] := by kernel_rfl
@[go_sem] theorem live_53_3 : C.live 53 3 = some [3, 0] := by kernel_rfl
@[go_sem] theorem live_53_4 : C.live 53 4 = some [3, 0] := by kernel_rfl
@[go_sem] theorem live_53_5 : C.live 53 5 = some [3, 0] := by kernel_rfl
@[go_sem] theorem live_53_6 : C.live 53 6 = some [0] := by kernel_rfl
@[go_sem] theorem esc_54 : C.esc 54 = [] := by kernel_rfl
@[go_sem] theorem live_54_0 : C.live 54 0 = some [1, 0] := by kernel_rfl
@[go_sem] theorem live_54_1 : C.live 54 1 = some [3, 0] := by kernel_rfl
@[go_sem] theorem live_54_2 : C.live 54 2 = some [3, 0] := by kernel_rfl
@[go_sem] theorem live_54_3 : C.live 54 3 = some [0] := by kernel_rfl
@[go_sem] theorem esc_55 : C.esc 55 = [] := by kernel_rfl
@[go_sem] theorem live_55_0 : C.live 55 0 = some [1, 0] := by kernel_rfl
@[go_sem] theorem live_55_1 : C.live 55 1 = some [0, 3] := by kernel_rfl
@[go_sem] theorem esc_56 : C.esc 56 = [] := by kernel_rfl
@[go_sem] theorem live_56_0 : C.live 56 0 = some [1, 0] := by kernel_rfl
@[go_sem] theorem live_56_1 : C.live 56 1 = some [0, 3] := by kernel_rfl
@[go_sem] theorem esc_57 : C.esc 57 = [] := by kernel_rfl
@[go_sem] theorem live_57_0 : C.live 57 0 = some [0] := by kernel_rfl
@[go_sem] theorem live_57_1 : C.live 57 1 = some [0] := by kernel_rfl
@[go_sem] theorem esc_58 : C.esc 58 = [] := by kernel_rfl
@[go_sem] theorem live_58_0 : C.live 58 0 = some [1, 0] := by kernel_rfl
@[go_sem] theorem live_58_1 : C.live 58 1 = some [1, 0] := by kernel_rfl
@[go_sem] theorem live_58_2 : C.live 58 2 = some [1, 0] := by kernel_rfl
@[go_sem] theorem live_58_3 : C.live 58 3 = some [1] := by kernel_rfl
@[go_sem] theorem esc_59 : C.esc 59 = [] := by kernel_rfl
@[go_sem] theorem live_59_0 : C.live 59 0 = some [0] := by kernel_rfl
@[go_sem] theorem live_59_1 : C.live 59 1 = some [0] := by kernel_rfl
@[go_sem] theorem esc_60 : C.esc 60 = [] := by kernel_rfl
@[go_sem] theorem live_60_0 : C.live 60 0 = some [2, 1, 0] := by kernel_rfl
@[go_sem] theorem live_60_1 : C.live 60 1 = some [2, 1, 0] := by kernel_rfl
@[go_sem] theorem live_60_2 : C.live 60 2 = some [0, 7, 2, 1] := by kernel_rfl
@[go_sem] theorem live_60_4 : C.live 60 4 = some [0, 7, 2, 1] := by kernel_rfl
@[go_sem] theorem live_60_5 : C.live 60 5 = some [0, 7, 2, 1] := by kernel_rfl
@[go_sem] theorem live_60_6 : C.live 60 6 = some [0, 7, 2, 1] := by kernel_rfl
@[go_sem] theorem live_60_7 : C.live 60 7 = some [0, 7, 2, 1] := by kernel_rfl
@[go_sem] theorem live_60_8 : C.live 60 8 = some [0, 7, 2, 1] := by kernel_rfl
@[go_sem] theorem live_60_9 : C.live 60 9 = some [0, 7, 2, 1] := by kernel_rfl
@[go_sem] theorem live_60_10 : C.live 60 10 = some [0, 7, 2, 1] := by kernel_rfl
@[go_sem] theorem live_60_3 : C.live 60 3 = some [7, 2, 1, 0] := by kernel_rfl
@[go_sem] theorem live_60_11 : C.live 60 11 = some [0] := by kernel_rfl
@[go_sem] theorem esc_61 : C.esc 61 = [] := by kernel_rfl
@[go_sem] theorem live_61_0 : C.live 61 0 = some [0] := by kernel_rfl
@[go_sem] theorem live_61_1 : C.live 61 1 = some [0] := by kernel_rfl
@[go_sem] theorem live_61_2 : C.live 61 2 = some [8] := by kernel_rfl
@[go_sem] theorem live_61_3 : C.live 61 3 = some [8] := by kernel_rfl
@[go_sem] theorem live_61_5 : C.live 61 5 = some [8] := by kernel_rfl
@[go_sem] theorem live_61_7 : C.live 61 7 = some [8] := by kernel_rfl
@[go_sem] theorem live_61_8 : C.live 61 8 = some [8] := by kernel_rfl
@[go_sem] theorem live_61_10 : C.live 61 10 = some [8] := by kernel_rfl
@[go_sem] theorem live_61_12 : C.live 61 12 = some [8] := by kernel_rfl
@[go_sem] theorem live_61_13 : C.live 61 13 = some [] := by kernel_rfl
@[go_sem] theorem live_61_11 : C.live 61 11 = some [] := by kernel_rfl
@[go_sem] theorem live_61_9 : C.live 61 9 = some [] := by kernel_rfl
@[go_sem] theorem live_61_6 : C.live 61 6 = some [] := by kernel_rfl
@[go_sem] theorem live_61_4 : C.live 61 4 = some [] := by kernel_rfl
@[go_sem] theorem live_61_14 : C.live 61 14 = some [] := by kernel_rfl
@[go_sem] theorem esc_62 : C.esc 62 = [] := by kernel_rfl
@[go_sem] theorem live_62_0 : C.live 62 0 = some [0] := by kernel_rfl
@[go_sem] theorem live_62_1 : C.live 62 1 = some [1] := by kernel_rfl
@[go_sem] theorem esc_63 : C.esc 63 = [] := by kernel_rfl
@[go_sem] theorem live_63_0 : C.live 63 0 = some [0] := by kernel_rfl
@[go_sem] theorem live_63_1 : C.live 63 1 = some [1] := by kernel_rfl
@[go_sem] theorem esc_64 : C.esc 64 = [] := by kernel_rfl
@[go_sem] theorem live_64_0 : C.live 64 0 = some [0] := by kernel_rfl
@[go_sem] theorem live_64_1 : C.live 64 1 = some [0] := by kernel_rfl
@[go_sem] theorem live_64_2 : C.live 64 2 = some [3, 0] := by kernel_rfl
@[go_sem] theorem live_64_3 : C.live 64 3 = some [3, 4, 0] := by kernel_rfl
@[go_sem] theorem live_64_5 : C.live 64 5 = some [3, 4, 0] := by kernel_rfl
@[go_sem] theorem live_64_4 : C.live 64 4 = some [4, 3, 0] := by kernel_rfl
@[go_sem] theorem live_64_6 : C.live 64 6 = some [3] := by kernel_rfl
@[go_sem] theorem esc_65 : C.esc 65 = [] := by kernel_rfl
@[go_sem] theorem live_65_0 : C.live 65 0 = some [0] := by kernel_rfl
@[go_sem] theorem live_65_1 : C.live 65 1 = some [1] := by kernel_rfl
@[go_sem] theorem live_65_2 : C.live 65 2 = some [3, 1] := by kernel_rfl
@[go_sem] theorem live_65_3 : C.live 65 3 = some [3, 10, 1] := by kernel_rfl
@[go_sem] theorem live_65_5 : C.live 65 5 = some [10, 3, 1] := by kernel_rfl
@[go_sem] theorem live_65_8 : C.live 65 8 = some [3, 10, 1] := by kernel_rfl
@[go_sem] theorem live_65_10 : C.live 65 10 = some [10, 1, 3] := by kernel_rfl
@[go_sem] theorem live_65_12 : C.live 65 12 = some [10, 1, 3] := by kernel_rfl
@[go_sem] theorem live_65_13 : C.live 65 13 = some [1, 3] := by kernel_rfl
@[go_sem] theorem live_65_11 : C.live 65 11 = some [1, 3] := by kernel_rfl
@[go_sem] theorem live_65_9 : C.live 65 9 = some [1] := by kernel_rfl
@[go_sem] theorem live_65_6 : C.live 65 6 = some [1] := by kernel_rfl
@[go_sem] theorem live_65_7 : C.live 65 7 = some [4] := by kernel_rfl
@[go_sem] theorem live_65_4 : C.live 65 4 = some [1] := by kernel_rfl
@[go_sem] theorem live_65_14 : C.live 65 14 = some [3, 1] := by kernel_rfl
@[go_sem] theorem live_65_15 : C.live 65 15 = some [1] := by kernel_rfl
@[go_sem] theorem live_65_16 : C.live 65 16 = some [3, 1] := by kernel_rfl
@[go_sem] theorem live_65_17 : C.live 65 17 = some [1] := by kernel_rfl
@[go_sem] theorem live_65_18 : C.live 65 18 = some [3, 1] := by kernel_rfl
@[go_sem] theorem live_65_19 : C.live 65 19 = some [1] := by kernel_rfl
@[go_sem] theorem live_65_20 : C.live 65 20 = some [1, 3] := by kernel_rfl
@[go_sem] theorem esc_66 : C.esc 66 = [] := by kernel_rfl
@[go_sem] theorem live_66_0 : C.live 66 0 = some [0] := by kernel_rfl
@[go_sem] theorem live_66_1 : C.live 66 1 = some [0] := by kernel_rfl
@[go_sem] theorem live_66_2 : C.live 66 2 = some [3, 0] := by kernel_rfl
@[go_sem] theorem live_66_3 : C.live 66 3 = some [4, 3, 0] := by kernel_rfl
@[go_sem] theorem live_66_4 : C.live 66 4 = some [4, 3, 0] := by kernel_rfl
@[go_sem] theorem live_66_5 : C.live 66 5 = some [3, 4, 0] := by kernel_rfl
@[go_sem] theorem live_66_6 : C.live 66 6 = some [0, 4] := by kernel_rfl
@[go_sem] theorem live_66_7 : C.live 66 7 = some [4] := by kernel_rfl
@[go_sem] theorem live_66_8 : C.live 66 8 = some [4] := by kernel_rfl
@[go_sem] theorem esc_67 : C.esc 67 = [] := by kernel_rfl
@[go_sem] theorem live_67_0 : C.live 67 0 = some [0, 1] := by kernel_rfl
@[go_sem] theorem live_67_1 : C.live 67 1 = some [1, 2] := by kernel_rfl
@[go_sem] theorem live_67_2 : C.live 67 2 = some [1, 2, 5] := by kernel_rfl
@[go_sem] theorem live_67_3 : C.live 67 3 = some [5] := by kernel_rfl
@[go_sem] theorem live_67_4 : C.live 67 4 = some [2, 1] := by kernel_rfl
@[go_sem] theorem live_67_5 : C.live 67 5 = some [17, 16, 1, 18] := by kernel_rfl
@[go_sem] theorem live_67_6 : C.live 67 6 = some [17, 16, 1, 18] := by kernel_rfl
@[go_sem] theorem live_67_7 : C.live 67 7 = some [7, 17, 16, 1, 18] := by kernel_rfl
@[go_sem] theorem live_67_8 : C.live 67 8 = some [17, 16, 1, 18, 8] := by kernel_rfl
@[go_sem] theorem live_67_9 : C.live 67 9 = some [8] := by kernel_rfl
@[go_sem] theorem live_67_10 : C.live 67 10 = some [18, 1, 16, 17] := by kernel_rfl
@[go_sem] theorem live_67_11 : C.live 67 11 = some [] := by kernel_rfl
@[go_sem] theorem esc_68 : C.esc 68 = [] := by kernel_rfl
@[go_sem] theorem live_68_0 : C.live 68 0 = some [0] := by kernel_rfl
@[go_sem] theorem live_68_1 : C.live 68 1 = some [0] := by kernel_rfl
@[go_sem] theorem live_68_2 : C.live 68 2 = some [3] := by kernel_rfl
@[go_sem] theorem live_68_4 : C.live 68 4 = some [3] := by kernel_rfl
@[go_sem] theorem live_68_6 : C.live 68 6 = some [3] := by kernel_rfl
@[go_sem] theorem live_68_8 : C.live 68 8 = some [3] := by kernel_rfl
@[go_sem] theorem live_68_9 : C.live 68 9 = some [3] := by kernel_rfl
@[go_sem] theorem live_68_10 : C.live 68 10 = some [3] := by kernel_rfl
@[go_sem] theorem live_68_11 : C.live 68 11 = some [3] := by kernel_rfl
@[go_sem] theorem live_68_12 : C.live 68 12 = some [3] := by kernel_rfl
@[go_sem] theorem live_68_13 : C.live 68 13 = some [3] := by kernel_rfl
@[go_sem] theorem live_68_15 : C.live 68 15 = some [3] := by kernel_rfl
@[go_sem] theorem live_68_17 : C.live 68 17 = some [3] := by kernel_rfl
@[go_sem] theorem live_68_18 : C.live 68 18 = some [3] := by kernel_rfl
@[go_sem] theorem live_68_20 : C.live 68 20 = some [3] := by kernel_rfl
@[go_sem] theorem live_68_21 : C.live 68 21 = some [3] := by kernel_rfl
@[go_sem] theorem live_68_22 : C.live 68 22 = some [3] := by kernel_rfl
@[go_sem] theorem live_68_24 : C.live 68 24 = some [3] := by kernel_rfl
@[go_sem] theorem live_68_25 : C.live 68 25 = some [] := by kernel_rfl
@[go_sem] theorem live_68_23 : C.live 68 23 = some [] := by kernel_rfl
@[go_sem] theorem live_68_19 : C.live 68 19 = some [] := by kernel_rfl
@[go_sem] theorem live_68_16 : C.live 68 16 = some [] := by kernel_rfl
@[go_sem] theorem live_68_14 : C.live 68 14 = some [] := by kernel_rfl
@[go_sem] theorem live_68_7 : C.live 68 7 = some [] := by kernel_rfl
@[go_sem] theorem live_68_5 : C.live 68 5 = some [] := by kernel_rfl
@[go_sem] theorem live_68_3 : C.live 68 3 = some [] := by kernel_rfl
@[go_sem] theorem live_68_26 : C.live 68 26 = some [] := by kernel_rfl
@[go_sem] theorem esc_69 : C.esc 69 = [] := by kernel_rfl
@[go_sem] theorem live_69_0 : C.live 69 0 = some [0] := by kernel_rfl
@[go_sem] theorem live_69_1 : C.live 69 1 = some [0] := by kernel_rfl
@[go_sem] theorem esc_70 : C.esc 70 = [4] := by kernel_rfl
@[go_sem] theorem live_70_0 : C.live 70 0 = some [0] := by kernel_rfl
@[go_sem] theorem live_70_1 : C.live 70 1 = some [0] := by kernel_rfl
@[go_sem] theorem live_70_2 : C.live 70 2 = some [] := by kernel_rfl
@[go_sem] theorem live_70_3 : C.live 70 3 = some [0] := by kernel_rfl
@[go_sem] theorem live_70_4 : C.live 70 4 = some [] := by kernel_rfl
@[go_sem] theorem live_70_5 : C.live 70 5 = some [0] := by kernel_rfl
@[go_sem] theorem live_70_6 : C.live 70 6 = some [4, 0] := by kernel_rfl
@[go_sem] theorem live_70_7 : C.live 70 7 = some [4, 0] := by kernel_rfl
@[go_sem] theorem live_70_8 : C.live 70 8 = some [15, 4, 0, 14] := by kernel_rfl
@[go_sem] theorem live_70_9 : C.live 70 9 = some [15, 4, 0, 14] := by kernel_rfl
@[go_sem] theorem live_70_10 : C.live 70 10 = some [5, 15, 4, 0, 14] := by kernel_rfl
@[go_sem] theorem live_70_11 : C.live 70 11 = some [5, 15, 4, 0, 14] := by kernel_rfl
@[go_sem] theorem live_70_12 : C.live 70 12 = some [5, 15, 4, 0, 14] := by kernel_rfl
@[go_sem] theorem live_70_13 : C.live 70 13 = some [15, 4, 0, 14] := by kernel_rfl
@[go_sem] theorem live_70_14 : C.live 70 14 = some [4] := by kernel_rfl
@[go_sem] theorem live_70_15 : C.live 70 15 = some [4] := by kernel_rfl
@[go_sem] theorem esc_71 : C.esc 71 = [] := by kernel_rfl
@[go_sem] theorem live_71_0 : C.live 71 0 = some [0, 1] := by kernel_rfl
@[go_sem] theorem live_71_1 : C.live 71 1 = some [1, 2] := by kernel_rfl
@[go_sem] theorem live_71_2 : C.live 71 2 = some [2] := by kernel_rfl
@[go_sem] theorem live_71_3 : C.live 71 3 = some [2] := by kernel_rfl
@[go_sem] theorem esc_72 : C.esc 72 = [] := by kernel_rfl
@[go_sem] theorem live_72_0 : C.live 72 0 = some [0] := by kernel_rfl
@[go_sem] theorem live_72_1 : C.live 72 1 = some [0] := by kernel_rfl
@[go_sem] theorem live_72_2 : C.live 72 2 = some [3] := by kernel_rfl
@[go_sem] theorem live_72_4 : C.live 72 4 = some [3] := by kernel_rfl
@[go_sem] theorem live_72_6 : C.live 72 6 = some [3] := by kernel_rfl
@[go_sem] theorem live_72_8 : C.live 72 8 = some [3] := by kernel_rfl
@[go_sem] theorem live_72_10 : C.live 72 10 = some [3] := by kernel_rfl
@[go_sem] theorem live_72_12 : C.live 72 12 = some [3] := by kernel_rfl
@[go_sem] theorem live_72_14 : C.live 72 14 = some [3] := by kernel_rfl
@[go_sem] theorem live_72_16 : C.live 72 16 = some [3] := by kernel_rfl
@[go_sem] theorem live_72_17 : C.live 72 17 = some [] := by kernel_rfl
@[go_sem] theorem live_72_15 : C.live 72 15 = some [] := by kernel_rfl
@[go_sem] theorem live_72_13 : C.live 72 13 = some [] := by kernel_rfl
@[go_sem] theorem live_72_11 : C.live 72 11 = some [] := by kernel_rfl
@[go_sem] theorem live_72_9 : C.live 72 9 = some [] := by kernel_rfl
@[go_sem] theorem live_72_7 : C.live 72 7 = some [] := by kernel_rfl
@[go_sem] theorem live_72_5 : C.live 72 5 = some [] := by kernel_rfl
@[go_sem] theorem live_72_3 : C.live 72 3 = some [] := by kernel_rfl
@[go_sem] theorem live_72_18 : C.live 72 18 = some [] := by kernel_rfl
@[go_sem] theorem esc_73 : C.esc 73 = [] := by kernel_rfl
@[go_sem] theorem live_73_0 : C.live 73 0 = some [0] := by kernel_rfl
@[go_sem] theorem live_73_1 : C.live 73 1 = some [0] := by kernel_rfl
@[go_sem] theorem live_73_2 : C.live 73 2 = some [3] := by kernel_rfl
@[go_sem] theorem live_73_4 : C.live 73 4 = some [3] := by kernel_rfl
@[go_sem] theorem live_73_6 : C.live 73 6 = some [3] := by kernel_rfl
@[go_sem] theorem live_73_8 : C.live 73 8 = some [3] := by kernel_rfl
@[go_sem] theorem live_73_10 : C.live 73 10 = some [3] := by kernel_rfl
@[go_sem] theorem live_73_12 : C.live 73 12 = some [3] := by kernel_rfl
@[go_sem] theorem live_73_14 : C.live 73 14 = some [3] := by kernel_rfl
@[go_sem] theorem live_73_16 : C.live 73 16 = some [3] := by kernel_rfl
@[go_sem] theorem live_73_18 : C.live 73 18 = some [3] := by kernel_rfl
@[go_sem] theorem live_73_20 : C.live 73 20 = some [3] := by kernel_rfl
@[go_sem] theorem live_73_22 : C.live 73 22 = some [3] := by kernel_rfl
@[go_sem] theorem live_73_24 : C.live 73 24 = some [3] := by kernel_rfl
@[go_sem] theorem live_73_26 : C.live 73 26 = some [3] := by kernel_rfl
@[go_sem] theorem live_73_27 : C.live 73 27 = some [] := by kernel_rfl
@[go_sem] theorem live_73_25 : C.live 73 25 = some [] := by kernel_rfl
@[go_sem] theorem live_73_23 : C.live 73 23 = some [] := by kernel_rfl
@[go_sem] theorem live_73_21 : C.live 73 21 = some [] := by kernel_rfl
@[go_sem] theorem live_73_19 : C.live 73 19 = some [] := by kernel_rfl
@[go_sem] theorem live_73_17 : C.live 73 17 = some [] := by kernel_rfl
@[go_sem] theorem live_73_15 : C.live 73 15 = some [] := by kernel_rfl
@[go_sem] theorem live_73_13 : C.live 73 13 = some [] := by kernel_rfl
@[go_sem] theorem live_73_11 : C.live 73 11 = some [] := by kernel_rfl
@[go_sem] theorem live_73_9 : C.live 73 9 = some [] := by kernel_rfl
@[go_sem] theorem live_73_7 : C.live 73 7 = some [] := by kernel_rfl
@[go_sem] theorem live_73_5 : C.live 73 5 = some [] := by kernel_rfl
@[go_sem] theorem live_73_3 : C.live 73 3 = some [] := by kernel_rfl
@[go_sem] theorem live_73_28 : C.live 73 28 = some [] := by kernel_rfl
@[go_sem] theorem esc_74 : C.esc 74 = [] := by kernel_rfl
@[go_sem] theorem live_74_0 : C.live 74 0 = some [0, 1] := by kernel_rfl
@[go_sem] theorem live_74_1 : C.live 74 1 = some [0, 1] := by kernel_rfl
@[go_sem] theorem live_74_2 : C.live 74 2 = some [7, 1, 0, 8] := by kernel_rfl
@[go_sem] theorem live_74_3 : C.live 74 3 = some [7, 1, 0, 8] := by kernel_rfl
@[go_sem] theorem live_74_4 : C.live 74 4 = some [7, 1, 0, 8, 5] := by kernel_rfl
@[go_sem] theorem live_74_5 : C.live 74 5 = some [5] := by kernel_rfl
@[go_sem] theorem live_74_6 : C.live 74 6 = some [8, 0, 1, 7] := by kernel_rfl
@[go_sem] theorem live_74_7 : C.live 74 7 = some [] := by kernel_rfl
@[go_sem] theorem esc_75 : C.esc 75 = [] := by kernel_rfl
@[go_sem] theorem live_75_0 : C.live 75 0 = some [1, 0] := by kernel_rfl
@[go_sem] theorem live_75_1 : C.live 75 1 = some [3, 0] := by kernel_rfl
@[go_sem] theorem live_75_2 : C.live 75 2 = some [0, 3] := by kernel_rfl
@[go_sem] theorem live_75_3 : C.live 75 3 = some [0, 3] := by kernel_rfl
@[go_sem] theorem esc_76 : C.esc 76 = [] := by kernel_rfl
@[go_sem] theorem live_76_0 : C.live 76 0 = some [0] := by kernel_rfl
@[go_sem] theorem live_76_1 : C.live 76 1 = some [1] := by kernel_rfl
@[go_sem] theorem esc_79 : C.esc 79 = [] := by kernel_rfl
@[go_sem] theorem live_79_0 : C.live 79 0 = some [0] := by kernel_rfl
@[go_sem] theorem live_79_1 : C.live 79 1 = some [0] := by kernel_rfl
@[go_sem] theorem esc_80 : C.esc 80 = [] := by kernel_rfl
@[go_sem] theorem live_80_0 : C.live 80 0 = some [1, 0] := by kernel_rfl
@[go_sem] theorem live_80_1 : C.live 80 1 = some [1, 0] := by kernel_rfl
@[go_sem] theorem live_80_2 : C.live 80 2 = some [0, 1, 5] := by kernel_rfl
@[go_sem] theorem live_80_4 : C.live 80 4 = some [0, 1, 5] := by kernel_rfl
@[go_sem] theorem live_80_5 : C.live 80 5 = some [] := by kernel_rfl
@[go_sem] theorem live_80_3 : C.live 80 3 = some [5, 1, 0] := by kernel_rfl
@[go_sem] theorem live_80_6 : C.live 80 6 = some [] := by kernel_rfl
@[go_sem] theorem esc_81 : C.esc 81 = [] := by kernel_rfl
@[go_sem] theorem live_81_0 : C.live 81 0 = some [] := by kernel_rfl
@[go_sem] theorem live_81_1 : C.live 81 1 = some [] := by kernel_rfl
@[go_sem] theorem esc_82 : C.esc 82 = [] := by kernel_rfl
@[go_sem] theorem live_82_0 : C.live 82 0 = some [1, 2, 0] := by kernel_rfl
@[go_sem] theorem live_82_1 : C.live 82 1 = some [4, 2, 0] := by kernel_rfl
@[go_sem] theorem live_82_2 : C.live 82 2 = some [0] := by kernel_rfl
@[go_sem] theorem live_82_3 : C.live 82 3 = some [0, 2, 4] := by kernel_rfl
@[go_sem] theorem live_82_4 : C.live 82 4 = some [4, 0] := by kernel_rfl
@[go_sem] theorem live_82_5 : C.live 82 5 = some [0, 7, 4] := by kernel_rfl
@[go_sem] theorem live_82_7 : C.live 82 7 = some [0, 7, 4] := by kernel_rfl
@[go_sem] theorem live_82_6 : C.live 82 6 = some [7, 4, 0] := by kernel_rfl
@[go_sem] theorem live_82_8 : C.live 82 8 = some [0] := by kernel_rfl
@[go_sem] theorem esc_83 : C.esc 83 = [] := by kernel_rfl
@[go_sem] theorem live_83_0 : C.live 83 0 = some [0, 1] := by kernel_rfl
@[go_sem] theorem live_83_1 : C.live 83 1 = some [2, 1] := by kernel_rfl
@[go_sem] theorem live_83_2 : C.live 83 2 = some [2, 1, 5] := by kernel_rfl
@[go_sem] theorem live_83_3 : C.live 83 3 = some [5] := by kernel_rfl
@[go_sem] theorem live_83_4 : C.live 83 4 = some [1, 2] := by kernel_rfl
@[go_sem] theorem live_83_5 : C.live 83 5 = some [2, 1, 6] := by kernel_rfl
@[go_sem] theorem live_83_7 : C.live 83 7 = some [2, 1, 6] := by kernel_rfl
@[go_sem] theorem live_83_8 : C.live 83 8 = some [2, 1, 6, 7] := by kernel_rfl
@[go_sem] theorem live_83_9 : C.live 83 9 = some [7] := by kernel_rfl
@[go_sem] theorem live_83_6 : C.live 83 6 = some [6, 1, 2] := by kernel_rfl
@[go_sem] theorem live_83_10 : C.live 83 10 = some [] := by kernel_rfl
@[go_sem] theorem esc_84 : C.esc 84 = [] := by kernel_rfl
@[go_sem] theorem live_84_0 : C.live 84 0 = some [0] := by kernel_rfl
@[go_sem] theorem live_84_1 : C.live 84 1 = some [0] := by kernel_rfl
@[go_sem] theorem live_84_2 : C.live 84 2 = some [3] := by kernel_rfl
@[go_sem] theorem live_84_4 : C.live 84 4 = some [3] := by kernel_rfl
@[go_sem] theorem live_84_6 : C.live 84 6 = some [3] := by kernel_rfl
@[go_sem] theorem live_84_8 : C.live 84 8 = some [3] := by kernel_rfl
@[go_sem] theorem live_84_9 : C.live 84 9 = some [3] := by kernel_rfl
@[go_sem] theorem live_84_10 : C.live 84 10 = some [3] := by kernel_rfl
@[go_sem] theorem live_84_11 : C.live 84 11 = some [3] := by kernel_rfl
@[go_sem] theorem live_84_12 : C.live 84 12 = some [3] := by kernel_rfl
@[go_sem] theorem live_84_13 : C.live 84 13 = some [3] := by kernel_rfl
@[go_sem] theorem live_84_15 : C.live 84 15 = some [3] := by kernel_rfl
@[go_sem] theorem live_84_17 : C.live 84 17 = some [3] := by kernel_rfl
@[go_sem] theorem live_84_18 : C.live 84 18 = some [3] := by kernel_rfl
@[go_sem] theorem live_84_20 : C.live 84 20 = some [3] := by kernel_rfl
@[go_sem] theorem live_84_21 : C.live 84 21 = some [3] := by kernel_rfl
@[go_sem] theorem live_84_22 : C.live 84 22 = some [3] := by kernel_rfl
@[go_sem] theorem live_84_24 : C.live 84 24 = some [3] := by kernel_rfl
@[go_sem] theorem live_84_25 : C.live 84 25 = some [] := by kernel_rfl
@[go_sem] theorem live_84_23 : C.live 84 23 = some [] := by kernel_rfl
@[go_sem] theorem live_84_19 : C.live 84 19 = some [] := by kernel_rfl
@[go_sem] theorem live_84_16 : C.live 84 16 = some [] := by kernel_rfl
@[go_sem] theorem live_84_14 : C.live 84 14 = some [] := by kernel_rfl
@[go_sem] theorem live_84_7 : C.live 84 7 = some [] := by kernel_rfl
@[go_sem] theorem live_84_5 : C.live 84 5 = some [] := by kernel_rfl
@[go_sem] theorem live_84_3 : C.live 84 3 = some [] := by kernel_rfl
@[go_sem] theorem live_84_26 : C.live 84 26 = some [] := by kernel_rfl
@[go_sem] theorem esc_85 : C.esc 85 = [] := by kernel_rfl
@[go_sem] theorem live_85_0 : C.live 85 0 = some [0] := by kernel_rfl
@[go_sem] theorem live_85_1 : C.live 85 1 = some [0] := by kernel_rfl
@[go_sem] theorem live_85_2 : C.live 85 2 = some [] := by kernel_rfl
@[go_sem] theorem live_85_3 : C.live 85 3 = some [0] := by kernel_rfl
@[go_sem] theorem live_85_4 : C.live 85 4 = some [] := by kernel_rfl
@[go_sem] theorem live_85_5 : C.live 85 5 = some [0] := by kernel_rfl
@[go_sem] theorem live_85_6 : C.live 85 6 = some [0, 4] := by kernel_rfl
@[go_sem] theorem live_85_7 : C.live 85 7 = some [4, 5, 0] := by kernel_rfl
@[go_sem] theorem live_85_9 : C.live 85 9 = some [4, 5, 0] := by kernel_rfl
@[go_sem] theorem live_85_10 : C.live 85 10 = some [4, 5, 0] := by kernel_rfl
@[go_sem] theorem live_85_11 : C.live 85 11 = some [4, 5, 0] := by kernel_rfl
@[go_sem] theorem live_85_8 : C.live 85 8 = some [5, 0, 4] := by kernel_rfl
@[go_sem] theorem live_85_12 : C.live 85 12 = some [4] := by kernel_rfl
@[go_sem] theorem esc_86 : C.esc 86 = [] := by kernel_rfl
@[go_sem] theorem live_86_0 : C.live 86 0 = some [0, 1] := by kernel_rfl
@[go_sem] theorem live_86_1 : C.live 86 1 = some [1, 2] := by kernel_rfl
@[go_sem] theorem live_86_2 : C.live 86 2 = some [2] := by kernel_rfl
@[go_sem] theorem live_86_3 : C.live 86 3 = some [2] := by kernel_rfl
@[go_sem] theorem esc_87 : C.esc 87 = [] := by kernel_rfl
@[go_sem] theorem live_87_0 : C.live 87 0 = some [0] := by kernel_rfl
@[go_sem] theorem live_87_1 : C.live 87 1 = some [0] := by kernel_rfl
@[go_sem] theorem live_87_2 : C.live 87 2 = some [3] := by kernel_rfl
@[go_sem] theorem live_87_4 : C.live 87 4 = some [3] := by kernel_rfl
@[go_sem] theorem live_87_6 : C.live 87 6 = some [3] := by kernel_rfl
@[go_sem] theorem live_87_8 : C.live 87 8 = some [3] := by kernel_rfl
@[go_sem] theorem live_87_10 : C.live 87 10 = some [3] := by kernel_rfl
@[go_sem] theorem live_87_12 : C.live 87 12 = some [3] := by kernel_rfl
@[go_sem] theorem live_87_14 : C.live 87 14 = some [3] := by kernel_rfl
@[go_sem] theorem live_87_15 : C.live 87 15 = some [] := by kernel_rfl
@[go_sem] theorem live_87_13 : C.live 87 13 = some [] := by kernel_rfl
@[go_sem] theorem live_87_11 : C.live 87 11 = some [] := by kernel_rfl
@[go_sem] theorem live_87_9 : C.live 87 9 = some [] := by kernel_rfl
@[go_sem] theorem live_87_7 : C.live 87 7 = some [] := by kernel_rfl
@[go_sem] theorem live_87_5 : C.live 87 5 = some [] := by kernel_rfl
@[go_sem] theorem live_87_3 : C.live 87 3 = some [] := by kernel_rfl
@[go_sem] theorem live_87_16 : C.live 87 16 = some [] := by kernel_rfl
@[go_sem] theorem esc_88 : C.esc 88 = [] := by kernel_rfl
@[go_sem] theorem live_88_0 : C.live 88 0 = some [0] := by kernel_rfl
@[go_sem] theorem live_88_1 : C.live 88 1 = some [0] := by kernel_rfl
@[go_sem] theorem live_88_2 : C.live 88 2 = some [3] := by kernel_rfl
@[go_sem] theorem live_88_4 : C.live 88 4 = some [3] := by kernel_rfl
@[go_sem] theorem live_88_6 : C.live 88 6 = some [3] := by kernel_rfl
@[go_sem] theorem live_88_8 : C.live 88 8 = some [3] := by kernel_rfl
@[go_sem] theorem live_88_10 : C.live 88 10 = some [3] := by kernel_rfl
@[go_sem] theorem live_88_12 : C.live 88 12 = some [3] := by kernel_rfl
@[go_sem] theorem live_88_14 : C.live 88 14 = some [3] := by kernel_rfl
@[go_sem] theorem live_88_16 : C.live 88 16 = some [3] := by kernel_rfl
@[go_sem] theorem live_88_18 : C.live 88 18 = some [3] := by kernel_rfl
@[go_sem] theorem live_88_20 : C.live 88 20 = some [3] := by kernel_rfl
@[go_sem] theorem live_88_22 : C.live 88 22 = some [3] := by kernel_rfl
@[go_sem] theorem live_88_24 : C.live 88 24 = some [3] := by kernel_rfl
@[go_sem] theorem live_88_26 : C.live 88 26 = some [3] := by kernel_rfl
@[go_sem] theorem live_88_27 : C.live 88 27 = some [] := by kernel_rfl
@[go_sem] theorem live_88_25 : C.live 88 25 = some [] := by kernel_rfl
@[go_sem] theorem live_88_23 : C.live 88 23 = some [] := by kernel_rfl
@[go_sem] theorem live_88_21 : C.live 88 21 = some [] := by kernel_rfl
@[go_sem] theorem live_88_19 : C.live 88 19 = some [] := by kernel_rfl
@[go_sem] theorem live_88_17 : C.live 88 17 = some [] := by kernel_rfl
@[go_sem] theorem live_88_15 : C.live 88 15 = some [] := by kernel_rfl
@[go_sem] theorem live_88_13 : C.live 88 13 = some [] := by kernel_rfl
@[go_sem] theorem live_88_11 : C.live 88 11 = some [] := by kernel_rfl
@[go_sem] theorem live_88_9 : C.live 88 9 = some [] := by kernel_rfl
@[go_sem] theorem live_88_7 : C.live 88 7 = some [] := by kernel_rfl
@[go_sem] theorem live_88_5 : C.live 88 5 = some [] := by kernel_rfl
@[go_sem] theorem live_88_3 : C.live 88 3 = some [] := by kernel_rfl
@[go_sem] theorem live_88_28 : C.live 88 28 = some [] := by kernel_rfl
@[go_sem] theorem esc_89 : C.esc 89 = [] := by kernel_rfl
@[go_sem] theorem live_89_0 : C.live 89 0 = some [0] := by kernel_rfl
@[go_sem] theorem live_89_1 : C.live 89 1 = some [0] := by kernel_rfl
@[go_sem] theorem live_89_2 : C.live 89 2 = some [0] := by kernel_rfl
@[go_sem] theorem live_89_3 : C.live 89 3 = some [0] := by kernel_rfl
@[go_sem] theorem esc_90 : C.esc 90 = [] := by kernel_rfl
@[go_sem] theorem live_90_0 : C.live 90 0 = some [0, 1] := by kernel_rfl
@[go_sem] theorem live_90_1 : C.live 90 1 = some [2, 1] := by kernel_rfl
@[go_sem] theorem live_90_2 : C.live 90 2 = some [2, 5, 1] := by kernel_rfl
@[go_sem] theorem live_90_4 : C.live 90 4 = some [1, 5, 2] := by kernel_rfl
@[go_sem] theorem live_90_6 : C.live 90 6 = some [2, 5, 1] := by kernel_rfl
@[go_sem] theorem live_90_8 : C.live 90 8 = some [1] := by kernel_rfl
@[go_sem] theorem live_90_9 : C.live 90 9 = some [] := by kernel_rfl
@[go_sem] theorem live_90_7 : C.live 90 7 = some [] := by kernel_rfl
@[go_sem] theorem live_90_5 : C.live 90 5 = some [] := by kernel_rfl
@[go_sem] theorem live_90_3 : C.live 90 3 = some [] := by kernel_rfl
@[go_sem] theorem live_90_10 : C.live 90 10 = some [] := by kernel_rfl
@[go_sem] theorem esc_91 : C.esc 91 = [] := by kernel_rfl
@[go_sem] theorem live_91_0 : C.live 91 0 = some [0, 1] := by kernel_rfl
@[go_sem] theorem live_91_1 : C.live 91 1 = some [0, 1] := by kernel_rfl
@[go_sem] theorem esc_92 : C.esc 92 = [] := by kernel_rfl
@[go_sem] theorem live_92_0 : C.live 92 0 = some [0] := by kernel_rfl
@[go_sem] theorem live_92_1 : C.live 92 1 = some [0] := by kernel_rfl
@[go_sem] theorem live_92_2 : C.live 92 2 = some [5, 0, 6] := by kernel_rfl
@[go_sem] theorem live_92_3 : C.live 92 3 = some [5, 0, 6] := by kernel_rfl
@[go_sem] theorem live_92_4 : C.live 92 4 = some [3, 5, 0, 6] := by kernel_rfl
@[go_sem] theorem live_92_5 : C.live 92 5 = some [] := by kernel_rfl
@[go_sem] theorem live_92_6 : C.live 92 6 = some [6, 0, 5] := by kernel_rfl
@[go_sem] theorem live_92_7 : C.live 92 7 = some [] := by kernel_rfl
@[go_sem] theorem esc_93 : C.esc 93 = [] := by kernel_rfl
@[go_sem] theorem live_93_0 : C.live 93 0 = some [1, 0] := by kernel_rfl
@[go_sem] theorem live_93_1 : C.live 93 1 = some [0, 3] := by kernel_rfl
@[go_sem] theorem live_93_2 : C.live 93 2 = some [3, 0] := by kernel_rfl
@[go_sem] theorem live_93_3 : C.live 93 3 = some [3, 0] := by kernel_rfl
@[go_sem] theorem live_93_4 : C.live 93 4 = some [21, 0, 19, 20] := by kernel_rfl
@[go_sem] theorem live_93_5 : C.live 93 5 = some [21, 0, 19, 20] := by kernel_rfl
@[go_sem] theorem live_93_6 : C.live 93 6 = some [5, 21, 0, 19, 20] := by kernel_rfl
@[go_sem] theorem live_93_7 : C.live 93 7 = some [21, 0, 19, 20] := by kernel_rfl
@[go_sem] theorem esc_94 : C.esc 94 = [] := by kernel_rfl
@[go_sem] theorem live_94_0 : C.live 94 0 = some [0] := by kernel_rfl
@[go_sem] theorem live_94_1 : C.live 94 1 = some [0] := by kernel_rfl
@[go_sem] theorem esc_95 : C.esc 95 = [] := by kernel_rfl
@[go_sem] theorem live_95_0 : C.live 95 0 = some [0, 1] := by kernel_rfl
@[go_sem] theorem live_95_1 : C.live 95 1 = some [2, 1] := by kernel_rfl
@[go_sem] theorem live_95_2 : C.live 95 2 = some [] := by kernel_rfl
@[go_sem] theorem live_95_3 : C.live 95 3 = some [1, 2] := by kernel_rfl
@[go_sem] theorem live_95_4 : C.live 95 4 = some [] := by kernel_rfl
@[go_sem] theorem live_95_5 : C.live 95 5 = some [2, 1] := by kernel_rfl
@[go_sem] theorem live_95_6 : C.live 95 6 = some [] := by kernel_rfl
@[go_sem] theorem live_95_7 : C.live 95 7 = some [1] := by kernel_rfl
@[go_sem] theorem live_95_8 : C.live 95 8 = some [] := by kernel_rfl
@[go_sem] theorem live_95_9 : C.live 95 9 = some [] := by kernel_rfl
@[go_sem] theorem esc_96 : C.esc 96 = [] := by kernel_rfl
@[go_sem] theorem live_96_0 : C.live 96 0 = some [0] := by kernel_rfl
@[go_sem] theorem live_96_1 : C.live 96 1 = some [0] := by kernel_rfl
@[go_sem] theorem live_96_2 : C.live 96 2 = some [0, 3] := by kernel_rfl
@[go_sem] theorem live_96_4 : C.live 96 4 = some [0, 3] := by kernel_rfl
@[go_sem] theorem live_96_5 : C.live 96 5 = some [] := by kernel_rfl
@[go_sem] theorem live_96_3 : C.live 96 3 = some [3, 0] := by kernel_rfl
@[go_sem] theorem live_96_6 : C.live 96 6 = some [] := by kernel_rfl
@[go_sem] theorem esc_97 : C.esc 97 = [] := by kernel_rfl
@[go_sem] theorem live_97_0 : C.live 97 0 = some [0] := by kernel_rfl
@[go_sem] theorem live_97_1 : C.live 97 1 = some [0] := by kernel_rfl
@[go_sem] theorem live_97_3 : C.live 97 3 = some [0] := by kernel_rfl
@[go_sem] theorem live_97_5 : C.live 97 5 = some [0] := by kernel_rfl
@[go_sem] theorem live_97_6 : C.live 97 6 = some [] := by kernel_rfl
@[go_sem] theorem live_97_4 : C.live 97 4 = some [] := by kernel_rfl
@[go_sem] theorem live_97_2 : C.live 97 2 = some [] := by kernel_rfl
@[go_sem] theorem live_97_7 : C.live 97 7 = some [] := by kernel_rfl
@[go_sem] theorem esc_98 : C.esc 98 = [] := by kernel_rfl
@[go_sem] theorem live_98_0 : C.live 98 0 = some [0] := by kernel_rfl
@[go_sem] theorem live_98_1 : C.live 98 1 = some [0] := by kernel_rfl
@[go_sem] theorem live_98_2 : C.live 98 2 = some [0, 3] := by kernel_rfl
@[go_sem] theorem live_98_4 : C.live 98 4 = some [0, 3] := by kernel_rfl
@[go_sem] theorem live_98_5 : C.live 98 5 = some [] := by kernel_rfl
@[go_sem] theorem live_98_3 : C.live 98 3 = some [3, 0] := by kernel_rfl
@[go_sem] theorem live_98_6 : C.live 98 6 = some [0] := by kernel_rfl
@[go_sem] theorem esc_99 : C.esc 99 = [5] := by kernel_rfl
@[go_sem] theorem live_99_0 : C.live 99 0 = some [1, 0] := by kernel_rfl
@[go_sem] theorem live_99_1 : C.live 99 1 = some [1, 0] := by kernel_rfl
@[go_sem] theorem live_99_2 : C.live 99 2 = some [0] := by kernel_rfl
@[go_sem] theorem live_99_3 : C.live 99 3 = some [0] := by kernel_rfl
@[go_sem] theorem live_99_4 : C.live 99 4 = some [0] := by kernel_rfl
@[go_sem] theorem live_99_5 : C.live 99 5 = some [0, 5] := by kernel_rfl
@[go_sem] theorem live_99_6 : C.live 99 6 = some [6, 0, 5] := by kernel_rfl
@[go_sem] theorem live_99_7 : C.live 99 7 = some [6, 0, 5] := by kernel_rfl
@[go_sem] theorem live_99_8 : C.live 99 8 = some [6, 0, 5] := by kernel_rfl
@[go_sem] theorem live_99_9 : C.live 99 9 = some [6, 0, 7, 5] := by kernel_rfl
@[go_sem] theorem live_99_10 : C.live 99 10 = some [0, 7, 5] := by kernel_rfl
@[go_sem] theorem live_99_11 : C.live 99 11 = some [7, 5] := by kernel_rfl
@[go_sem] theorem live_99_12 : C.live 99 12 = some [7, 5] := by kernel_rfl
@[go_sem] theorem live_99_13 : C.live 99 13 = some [7, 5] := by kernel_rfl
@[go_sem] theorem live_99_14 : C.live 99 14 = some [1, 0] := by kernel_rfl
@[go_sem] theorem live_99_15 : C.live 99 15 = some [9] := by kernel_rfl
@[go_sem] theorem esc_100 : C.esc 100 = [] := by kernel_rfl
@[go_sem] theorem live_100_0 : C.live 100 0 = some [0] := by kernel_rfl
@[go_sem] theorem live_100_1 : C.live 100 1 = some [0] := by kernel_rfl
@[go_sem] theorem live_100_2 : C.live 100 2 = some [0, 3] := by kernel_rfl
@[go_sem] theorem live_100_3 : C.live 100 3 = some [0, 3] := by kernel_rfl
@[go_sem] theorem live_100_4 : C.live 100 4 = some [0, 3] := by kernel_rfl
@[go_sem] theorem live_100_5 : C.live 100 5 = some [0, 3] := by kernel_rfl
@[go_sem] theorem live_100_6 : C.live 100 6 = some [0, 3] := by kernel_rfl
@[go_sem] theorem live_100_7 : C.live 100 7 = some [0, 3] := by kernel_rfl
@[go_sem] theorem live_100_9 : C.live 100 9 = some [3, 0] := by kernel_rfl
@[go_sem] theorem live_100_10 : C.live 100 10 = some [3, 0] := by kernel_rfl
@[go_sem] theorem live_100_11 : C.live 100 11 = some [3, 0] := by kernel_rfl
@[go_sem] theorem live_100_12 : C.live 100 12 = some [3, 0] := by kernel_rfl
@[go_sem] theorem live_100_13 : C.live 100 13 = some [3, 0] := by kernel_rfl
@[go_sem] theorem live_100_14 : C.live 100 14 = some [3, 0] := by kernel_rfl
@[go_sem] theorem live_100_15 : C.live 100 15 = some [3, 0] := by kernel_rfl
@[go_sem] theorem live_100_16 : C.live 100 16 = some [] := by kernel_rfl
@[go_sem] theorem live_100_8 : C.live 100 8 = some [] := by kernel_rfl
@[go_sem] theorem live_100_17 : C.live 100 17 = some [0] := by kernel_rfl
@[go_sem] theorem live_100_18 : C.live 100 18 = some [] := by kernel_rfl
@[go_sem] theorem live_100_19 : C.live 100 19 = some [] := by kernel_rfl
@[go_sem] theorem esc_101 : C.esc 101 = [] := by kernel_rfl
@[go_sem] theorem live_101_0 : C.live 101 0 = some [0] := by kernel_rfl
@[go_sem] theorem live_101_1 : C.live 101 1 = some [0] := by kernel_rfl
@[go_sem] theorem live_101_2 : C.live 101 2 = some [] := by kernel_rfl
@[go_sem] theorem live_101_3 : C.live 101 3 = some [0] := by kernel_rfl
@[go_sem] theorem live_101_4 : C.live 101 4 = some [0, 3] := by kernel_rfl
@[go_sem] theorem live_101_6 : C.live 101 6 = some [0, 3] := by kernel_rfl
@[go_sem] theorem live_101_7 : C.live 101 7 = some [] := by kernel_rfl
@[go_sem] theorem live_101_5 : C.live 101 5 = some [3, 0] := by kernel_rfl
@[go_sem] theorem live_101_8 : C.live 101 8 = some [] := by kernel_rfl
@[go_sem] theorem esc_102 : C.esc 102 = [] := by kernel_rfl
@[go_sem] theorem live_102_0 : C.live 102 0 = some [0] := by kernel_rfl
@[go_sem] theorem live_102_1 : C.live 102 1 = some [0] := by kernel_rfl
@[go_sem] theorem live_102_2 : C.live 102 2 = some [0] := by kernel_rfl
@[go_sem] theorem live_102_3 : C.live 102 3 = some [0] := by kernel_rfl
@[go_sem] theorem esc_103 : C.esc 103 = [] := by kernel_rfl
@[go_sem] theorem live_103_0 : C.live 103 0 = some [0] := by kernel_rfl
@[go_sem] theorem live_103_1 : C.live 103 1 = some [0] := by kernel_rfl
@[go_sem] theorem live_103_2 : C.live 103 2 = some [0, 3] := by kernel_rfl
@[go_sem] theorem esc_104 : C.esc 104 = [] := by kernel_rfl
@[go_sem] theorem live_104_0 : C.live 104 0 = some [0, 1] := by kernel_rfl
@[go_sem] theorem live_104_1 : C.live 104 1 = some [1, 4, 0] := by kernel_rfl
@[go_sem] theorem live_104_2 : C.live 104 2 = some [1, 4, 0] := by kernel_rfl
@[go_sem] theorem live_104_3 : C.live 104 3 = some [1, 5, 4, 0] := by kernel_rfl
@[go_sem] theorem live_104_4 : C.live 104 4 = some [5, 4, 0, 1] := by kernel_rfl
@[go_sem] theorem live_104_5 : C.live 104 5 = some [7, 6, 4, 0, 1] := by kernel_rfl
@[go_sem] theorem live_104_6 : C.live 104 6 = some [6, 9, 8, 4, 0, 1] := by kernel_rfl
@[go_sem] theorem live_104_7 : C.live 104 7 = some [9, 8, 11, 10, 4, 0, 1] := by kernel_rfl
@[go_sem] theorem live_104_8 : C.live 104 8 = some [8, 11, 10, 4, 0, 1] := by kernel_rfl
@[go_sem] theorem live_104_9 : C.live 104 9 = some [11, 10, 4, 0, 1] := by kernel_rfl
@[go_sem] theorem live_104_10 : C.live 104 10 = some [10, 4, 0, 1] := by kernel_rfl
@[go_sem] theorem live_104_11 : C.live 104 11 = some [4, 0, 1] := by kernel_rfl
@[go_sem] theorem live_104_12 : C.live 104 12 = some [1, 4, 0] := by kernel_rfl
@[go_sem] theorem live_104_13 : C.live 104 13 = some [12, 4, 0] := by kernel_rfl
@[go_sem] theorem live_104_14 : C.live 104 14 = some [12, 4, 0] := by kernel_rfl
@[go_sem] theorem live_104_15 : C.live 104 15 = some [12, 13, 4, 0] := by kernel_rfl
@[go_sem] theorem live_104_16 : C.live 104 16 = some [13, 4, 12, 0] := by kernel_rfl
@[go_sem] theorem live_104_17 : C.live 104 17 = some [15, 14, 4, 12, 0] := by kernel_rfl
@[go_sem] theorem live_104_18 : C.live 104 18 = some [14, 4, 12, 0] := by kernel_rfl
@[go_sem] theorem live_104_19 : C.live 104 19 = some [4, 12, 0] := by kernel_rfl
@[go_sem] theorem live_104_20 : C.live 104 20 = some [12, 4, 0] := by kernel_rfl
@[go_sem] theorem live_104_21 : C.live 104 21 = some [12, 4, 0] := by kernel_rfl
@[go_sem] theorem live_104_22 : C.live 104 22 = some [12, 16, 4, 0] := by kernel_rfl
@[go_sem] theorem live_104_23 : C.live 104 23 = some [16, 4, 0, 12] := by kernel_rfl
@[go_sem] theorem live_104_24 : C.live 104 24 = some [4, 0, 12] := by kernel_rfl
@[go_sem] theorem live_104_25 : C.live 104 25 = some [4, 0, 12] := by kernel_rfl
@[go_sem] theorem live_104_26 : C.live 104 26 = some [0, 12] := by kernel_rfl
@[go_sem] theorem esc_105 : C.esc 105 = [12] := by kernel_rfl
@[go_sem] theorem live_105_0 : C.live 105 0 = some [1, 2, 3, 4, 0] := by kernel_rfl
@[go_sem] theorem live_105_1 : C.live 105 1 = some [1, 2, 3, 4, 10, 0, 11] := by kernel_rfl
@[go_sem] theorem live_105_2 : C.live 105 2 = some [1, 2, 3, 4, 10, 0, 11] := by kernel_rfl
@[go_sem] theorem live_105_3 : C.live 105 3 = some [1, 2, 3, 4, 10, 0, 11] := by kernel_rfl
@[go_sem] theorem live_105_4 : C.live 105 4 = some [1, 2, 12, 3, 4, 10, 0, 11] := by kernel_rfl
@[go_sem] theorem live_105_5 : C.live 105 5 = some [1, 2, 12, 13, 3, 4, 10, 0, 11] := by kernel_rfl
@[go_sem] theorem live_105_6 : C.live 105 6 = some [1, 2, 12, 13, 3, 4, 10, 0, 11] := by kernel_rfl
@[go_sem] theorem live_105_7 : C.live 105 7 = some [2, 1, 12, 13, 3, 4, 10, 0, 11] := by kernel_rfl
@[go_sem] theorem live_105_17 : C.live 105 17 = some [2, 12, 1, 13, 3, 4, 10, 0, 11] := by kernel_rfl
@[go_sem] theorem live_105_18 : C.live 105 18 = some [13, 1, 12, 17, 3, 4, 10, 0, 11] := by kernel_rfl
@[go_sem] theorem live_105_19 : C.live 105 19 = some [13, 1, 12, 17, 3, 4, 10, 0, 11] := by kernel_rfl
@[go_sem] theorem live_105_20 : C.live 105 20 = some [1, 12, 17, 13, 3, 4, 10, 0, 11] := by kernel_rfl
@[go_sem] theorem live_105_21 : C.live 105 21 = some [1, 18, 12, 17, 13, 3, 4, 10, 0, 11] := by kernel_rfl
@[go_sem] theorem live_105_22 : C.live 105 22 = some [18, 12, 17, 13, 3, 4, 10, 0, 11] := by kernel_rfl
@[go_sem] theorem live_105_23 : C.live 105 23 = some [13, 1, 3, 4, 10, 0, 12, 11] := by kernel_rfl
@[go_sem] theorem live_105_24 : C.live 105 24 = some [1, 3, 13, 4, 10, 0, 12, 11] := by kernel_rfl
@[go_sem] theorem live_105_8 : C.live 105 8 = some [2, 1, 12, 13, 3, 4, 10, 0, 11] := by kernel_rfl
@[go_sem] theorem live_105_9 : C.live 105 9 = some [2, 14, 1, 12, 13, 3, 4, 10, 0, 11] := by kernel_rfl
@[go_sem] theorem live_105_10 : C.live 105 10 = some [2, 14, 1, 12, 13, 3, 4, 10, 0, 11, 15] := by kernel_rfl
@[go_sem] theorem live_105_11 : C.live 105 11 = some [13, 1, 14, 12, 16, 3, 4, 10, 0, 11, 15] := by kernel_rfl
@[go_sem] theorem live_105_12 : C.live 105 12 = some [13, 1, 14, 12, 16, 3, 4, 10, 0, 11, 15] := by kernel_rfl
@[go_sem] theorem live_105_13 : C.live 105 13 = some [1, 14, 12, 16, 13, 3, 4, 10, 0, 11, 15] := by kernel_rfl
@[go_sem] theorem live_105_14 : C.live 105 14 = some [1, 14, 12, 16, 13, 3, 4, 10, 0, 11, 15] := by kernel_rfl
@[go_sem] theorem live_105_15 : C.live 105 15 = some [13, 1, 3, 4, 10, 0, 12, 11] := by kernel_rfl
@[go_sem] theorem live_105_16 : C.live 105 16 = some [1, 3, 13, 4, 10, 0, 12, 11] := by kernel_rfl
@[go_sem] theorem live_105_25 : C.live 105 25 = some [3, 13, 4, 10, 0, 12, 11] := by kernel_rfl
@[go_sem] theorem live_105_26 : C.live 105 26 = some [13, 4, 10, 0, 12, 11] := by kernel_rfl
@[go_sem] theorem live_105_27 : C.live 105 27 = some [4, 10, 0, 13, 12, 11] := by kernel_rfl
@[go_sem] theorem live_105_28 : C.live 105 28 = some [4, 10, 0, 13, 12, 11] := by kernel_rfl
@[go_sem] theorem live_105_29 : C.live 105 29 = some [0, 13, 12, 11] := by kernel_rfl
@[go_sem] theorem live_105_30 : C.live 105 30 = some [13, 12, 10] := by kernel_rfl
@[go_sem] theorem esc_106 : C.esc 106 = [] := by kernel_rfl
@[go_sem] theorem live_106_0 : C.live 106 0 = some [0] := by kernel_rfl
@[go_sem] theorem live_106_1 : C.live 106 1 = some [0] := by kernel_rfl
@[go_sem] theorem esc_107 : C.esc 107 = [] := by kernel_rfl
@[go_sem] theorem live_107_0 : C.live 107 0 = some [0] := by kernel_rfl
@[go_sem] theorem live_107_1 : C.live 107 1 = some [2, 0] := by kernel_rfl
@[go_sem] theorem live_107_2 : C.live 107 2 = some [0] := by kernel_rfl
@[go_sem] theorem live_107_3 : C.live 107 3 = some [0] := by kernel_rfl
@[go_sem] theorem live_107_4 : C.live 107 4 = some [0, 2] := by kernel_rfl
@[go_sem] theorem live_107_5 : C.live 107 5 = some [0, 2] := by kernel_rfl
@[go_sem] theorem live_107_6 : C.live 107 6 = some [2, 0] := by kernel_rfl
@[go_sem] theorem live_107_7 : C.live 107 7 = some [0, 2] := by kernel_rfl
@[go_sem] theorem live_107_8 : C.live 107 8 = some [0, 2] := by kernel_rfl
@[go_sem] theorem live_107_9 : C.live 107 9 = some [2, 0] := by kernel_rfl
@[go_sem] theorem live_107_10 : C.live 107 10 = some [2, 0] := by kernel_rfl
@[go_sem] theorem esc_108 : C.esc 108 = [] := by kernel_rfl
@[go_sem] theorem live_108_0 : C.live 108 0 = some [0] := by kernel_rfl
@[go_sem] theorem live_108_1 : C.live 108 1 = some [0] := by kernel_rfl
@[go_sem] theorem live_108_2 : C.live 108 2 = some [] := by kernel_rfl
@[go_sem] theorem live_108_3 : C.live 108 3 = some [] := by kernel_rfl
@[go_sem] theorem esc_109 : C.esc 109 = [] := by kernel_rfl
@[go_sem] theorem live_109_0 : C.live 109 0 = some [0] := by kernel_rfl
@[go_sem] theorem live_109_1 : C.live 109 1 = some [0] := by kernel_rfl
@[go_sem] theorem esc_110 : C.esc 110 = [] := by kernel_rfl
@[go_sem] theorem live_110_0 : C.live 110 0 = some [0] := by kernel_rfl
@[go_sem] theorem live_110_1 : C.live 110 1 = some [0] := by kernel_rfl
@[go_sem] theorem live_110_2 : C.live 110 2 = some [0] := by kernel_rfl
@[go_sem] theorem esc_111 : C.esc 111 = [] := by kernel_rfl
@[go_sem] theorem live_111_0 : C.live 111 0 = some [0] := by kernel_rfl
@[go_sem] theorem live_111_1 : C.live 111 1 = some [0] := by kernel_rfl
@[go_sem] theorem live_111_2 : C.live 111 2 = some [] := by kernel_rfl
@[go_sem] theorem live_111_3 : C.live 111 3 = some [0] := by kernel_rfl
@[go_sem] theorem esc_112 : C.esc 112 = [] := by kernel_rfl
@[go_sem] theorem live_112_0 : C.live 112 0 = some [0] := by kernel_rfl
@[go_sem] theorem live_112_1 : C.live 112 1 = some [0] := by kernel_rfl
@[go_sem] theorem live_112_2 : C.live 112 2 = some [] := by kernel_rfl
@[go_sem] theorem live_112_3 : C.live 112 3 = some [0] := by kernel_rfl
@[go_sem] theorem len_22 : lenT Tryz.prog 22 = 2 := by kernel_rfl
@[go_sem] theorem bool_3 : boolT Tryz.prog 3 = false := by kernel_rfl
@[go_sem] theorem arr_22 : arrT Tryz.prog 22 = none := by kernel_rfl
@[go_sem] theorem elem_22 : elemT Tryz.prog 22 = some (27, 3) := by kernel_rfl
@[go_sem] theorem kind_27 : kindT Tryz.prog 27 = some (3, true) := by kernel_rfl
@[go_sem] theorem bool_9 : boolT Tryz.prog 9 = false := by kernel_rfl
@[go_sem] theorem bool_31 : boolT Tryz.prog 31 = false := by kernel_rfl
@[go_sem] theorem field_27_1 : fieldT Tryz.prog 27 1 = some (1, 1, false) := by kernel_rfl
@[go_sem] theorem kind_24 : kindT Tryz.prog 24 = some (1, false) := by kernel_rfl
@[go_sem] theorem len_24 : lenT Tryz.prog 24 = 2 := by kernel_rfl
@[go_sem] theorem arr_24 : arrT Tryz.prog 24 = none := by kernel_rfl
@[go_sem] theorem elem_24 : elemT Tryz.prog 24 = some (35, 2) := by kernel_rfl
@[go_sem] theorem kind_35 : kindT Tryz.prog 35 = some (2, true) := by kernel_rfl
@[go_sem] theorem zero_35 : zeroT Tryz.prog 35 = some (.agg [.d (.str []), .d (.int .i64 0)]) := by kernel_rfl
@[go_sem] theorem field_35_0 : fieldT Tryz.prog 35 0 = some (0, 1, false) := by kernel_rfl
@[go_sem] theorem kind_9 : kindT Tryz.prog 9 = some (1, false) := by kernel_rfl
@[go_sem] theorem field_35_1 : fieldT Tryz.prog 35 1 = some (1, 1, false) := by kernel_rfl
@[go_sem] theorem kind_3 : kindT Tryz.prog 3 = some (1, false) := by kernel_rfl
@[go_sem] theorem elem_33 : elemT Tryz.prog 33 = some (9, 1) := by kernel_rfl
@[go_sem] theorem zero_9 : zeroT Tryz.prog 9 = some (.d (.str [])) := by kernel_rfl
@[go_sem] theorem room_9_1 : aroomT Tryz.prog 9 1 = true := by kernel_rfl
@[go_sem] theorem zero_43 : zeroT Tryz.prog 43 = some (.agg [.nilP, .nilS, .d (.int .i64 0)]) := by kernel_rfl
@[go_sem] theorem fields_43 : fieldsT Tryz.prog 43 = some [(0, 2), (2, 1)] := by kernel_rfl
@[go_sem] theorem field_27_0 : fieldT Tryz.prog 27 0 = some (0, 1, false) := by kernel_rfl
@[go_sem] theorem field_27_2 : fieldT Tryz.prog 27 2 = some (2, 1, false) := by kernel_rfl
@[go_sem] theorem kind_25 : kindT Tryz.prog 25 = some (1, false) := by kernel_rfl
@[go_sem] theorem field_43_0 : fieldT Tryz.prog 43 0 = some (0, 2, true) := by kernel_rfl
@[go_sem] theorem zero_27 : zeroT Tryz.prog 27 = some (.agg [.d (.str []), .nilS, .nilS]) := by kernel_rfl
@[go_sem] theorem elem_49 : elemT Tryz.prog 49 = some (51, 4) := by kernel_rfl
@[go_sem] theorem zero_51 : zeroT Tryz.prog 51 = some (.agg [.d (.int .i64 0), .d (.int .i64 0), .d (.str []), .nilS]) := by kernel_rfl
@[go_sem] theorem kind_51 : kindT Tryz.prog 51 = some (4, true) := by kernel_rfl
@[go_sem] theorem fields_35 : fieldsT Tryz.prog 35 = some [(0, 1), (1, 1)] := by kernel_rfl
@[go_sem] theorem zero_56 : zeroT Tryz.prog 56 = some (.agg [.d (.int .i64 0), .d (.str []), .d (.int .i64 0), .d (.int .i64 0), .d (.int .i64 0), .d (.str []), .nilS, .d (.int .i64 0), .d (.int .i64 0), .d (.str []), .nilS, .nilS, .nilS]) := by kernel_rfl
@[go_sem] theorem fields_56 : fieldsT Tryz.prog 56 = some [(0, 1), (1, 1), (2, 1), (3, 4), (7, 4), (11, 1), (12, 1)] := by kernel_rfl
@[go_sem] theorem elem_25 : elemT Tryz.prog 25 = some (56, 13) := by kernel_rfl
@[go_sem] theorem fields_27 : fieldsT Tryz.prog 27 = some [(0, 1), (1, 1), (2, 1)] := by kernel_rfl
@[go_sem] theorem zero_31 : zeroT Tryz.prog 31 = some (.d (.int .i64 0)) := by kernel_rfl
@[go_sem] theorem kind_31 : kindT Tryz.prog 31 = some (1, false) := by kernel_rfl
@[go_sem] theorem field_43_1 : fieldT Tryz.prog 43 1 = some (2, 1, false) := by kernel_rfl
@[go_sem] theorem len_33 : lenT Tryz.prog 33 = 2 := by kernel_rfl
@[go_sem] theorem arr_33 : arrT Tryz.prog 33 = none := by kernel_rfl
@[go_sem] theorem len_9 : lenT Tryz.prog 9 = 1 := by kernel_rfl
@[go_sem] theorem zero_41 : zeroT Tryz.prog 41 = some (.agg [.nilP, .nilS]) := by kernel_rfl
@[go_sem] theorem str_33 : strT Tryz.prog 33 = false := by kernel_rfl
@[go_sem] theorem len_25 : lenT Tryz.prog 25 = 2 := by kernel_rfl
@[go_sem] theorem arr_25 : arrT Tryz.prog 25 = none := by kernel_rfl
@[go_sem] theorem kind_56 : kindT Tryz.prog 56 = some (13, true) := by kernel_rfl
@[go_sem] theorem field_56_0 : fieldT Tryz.prog 56 0 = some (0, 1, false) := by kernel_rfl
@[go_sem] theorem field_41_1 : fieldT Tryz.prog 41 1 = some (1, 1, false) := by kernel_rfl
@[go_sem] theorem kind_39 : kindT Tryz.prog 39 = some (1, false) := by kernel_rfl
@[go_sem] theorem len_39 : lenT Tryz.prog 39 = 2 := by kernel_rfl
@[go_sem] theorem len_73 : lenT Tryz.prog 73 = 2 := by kernel_rfl
@[go_sem] theorem arr_73 : arrT Tryz.prog 73 = none := by kernel_rfl
@[go_sem] theorem elem_73 : elemT Tryz.prog 73 = some (76, 20) := by kernel_rfl
@[go_sem] theorem field_76_0 : fieldT Tryz.prog 76 0 = some (0, 1, false) := by kernel_rfl
@[go_sem] theorem kind_4 : kindT Tryz.prog 4 = some (1, false) := by kernel_rfl
@[go_sem] theorem field_76_1 : fieldT Tryz.prog 76 1 = some (1, 13, true) := by kernel_rfl
@[go_sem] theorem field_76_2 : fieldT Tryz.prog 76 2 = some (14, 1, false) := by kernel_rfl
@[go_sem] theorem fields_51 : fieldsT Tryz.prog 51 = some [(0, 1), (1, 1), (2, 1), (3, 1)] := by kernel_rfl
@[go_sem] theorem str_9 : strT Tryz.prog 9 = true := by kernel_rfl
@[go_sem] theorem arr_9 : arrT Tryz.prog 9 = none := by kernel_rfl
@[go_sem] theorem conv_5_21 : convT Tryz.prog 5 21 = some .i32 := by kernel_rfl
@[go_sem] theorem str_5 : strT Tryz.prog 5 = false := by kernel_rfl
@[go_sem] theorem str_21 : strT Tryz.prog 21 = false := by kernel_rfl
@[go_sem] theorem str_24 : strT Tryz.prog 24 = false := by kernel_rfl
@[go_sem] theorem zero_85 : zeroT Tryz.prog 85 = some (.agg [.d (.int .i64 0), .nilF, .nilF]) := by kernel_rfl
@[go_sem] theorem fields_85 : fieldsT Tryz.prog 85 = some [(0, 1), (1, 1), (2, 1)] := by kernel_rfl
@[go_sem] theorem field_85_0 : fieldT Tryz.prog 85 0 = some (0, 1, false) := by kernel_rfl
@[go_sem] theorem zero_88 : zeroT Tryz.prog 88 = some (.agg [.d (.bool false), .d (.bool false), .d (.bool false), .d (.bool false), .d (.bool false), .d (.bool false)]) := by kernel_rfl
@[go_sem] theorem kind_88 : kindT Tryz.prog 88 = some (6, true) := by kernel_rfl
@[go_sem] theorem field_88_0 : fieldT Tryz.prog 88 0 = some (0, 1, false) := by kernel_rfl
@[go_sem] theorem field_56_1 : fieldT Tryz.prog 56 1 = some (1, 1, false) := by kernel_rfl
@[go_sem] theorem field_88_1 : fieldT Tryz.prog 88 1 = some (1, 1, false) := by kernel_rfl
@[go_sem] theorem field_56_3 : fieldT Tryz.prog 56 3 = some (3, 4, true) := by kernel_rfl
@[go_sem] theorem field_88_2 : fieldT Tryz.prog 88 2 = some (2, 1, false) := by kernel_rfl
@[go_sem] theorem field_56_4 : fieldT Tryz.prog 56 4 = some (7, 4, true) := by kernel_rfl
@[go_sem] theorem elem_39 : elemT Tryz.prog 39 = some (5, 1) := by kernel_rfl
@[go_sem] theorem room_5_1 : aroomT Tryz.prog 5 1 = true := by kernel_rfl
@[go_sem] theorem zero_5 : zeroT Tryz.prog 5 = some (.d (.int .u8 0)) := by kernel_rfl
@[go_sem] theorem field_56_2 : fieldT Tryz.prog 56 2 = some (2, 1, false) := by kernel_rfl
@[go_sem] theorem field_56_5 : fieldT Tryz.prog 56 5 = some (11, 1, false) := by kernel_rfl
@[go_sem] theorem field_56_6 : fieldT Tryz.prog 56 6 = some (12, 1, false) := by kernel_rfl
@[go_sem] theorem field_51_0 : fieldT Tryz.prog 51 0 = some (0, 1, false) := by kernel_rfl
@[go_sem] theorem field_51_1 : fieldT Tryz.prog 51 1 = some (1, 1, false) := by kernel_rfl
@[go_sem] theorem kind_2 : kindT Tryz.prog 2 = some (1, false) := by kernel_rfl
@[go_sem] theorem field_51_2 : fieldT Tryz.prog 51 2 = some (2, 1, false) := by kernel_rfl
@[go_sem] theorem field_51_3 : fieldT Tryz.prog 51 3 = some (3, 1, false) := by kernel_rfl
@[go_sem] theorem kind_49 : kindT Tryz.prog 49 = some (1, false) := by kernel_rfl
@[go_sem] theorem arr_49 : arrT Tryz.prog 49 = none := by kernel_rfl
@[go_sem] theorem len_49 : lenT Tryz.prog 49 = 2 := by kernel_rfl
@[go_sem] theorem bool_21 : boolT Tryz.prog 21 = false := by kernel_rfl
@[go_sem] theorem field_85_1 : fieldT Tryz.prog 85 1 = some (1, 1, false) := by kernel_rfl
@[go_sem] theorem kind_62 : kindT Tryz.prog 62 = some (1, false) := by kernel_rfl
@[go_sem] theorem fields_88 : fieldsT Tryz.prog 88 = some [(0, 1), (1, 1), (2, 1), (3, 1), (4, 1), (5, 1)] := by kernel_rfl
@[go_sem] theorem field_88_3 : fieldT Tryz.prog 88 3 = some (3, 1, false) := by kernel_rfl
@[go_sem] theorem field_88_4 : fieldT Tryz.prog 88 4 = some (4, 1, false) := by kernel_rfl
@[go_sem] theorem field_88_5 : fieldT Tryz.prog 88 5 = some (5, 1, false) := by kernel_rfl
@[go_sem] theorem field_41_0 : fieldT Tryz.prog 41 0 = some (0, 1, false) := by kernel_rfl
@[go_sem] theorem kind_38 : kindT Tryz.prog 38 = some (1, false) := by kernel_rfl
@[go_sem] theorem bool_38 : boolT Tryz.prog 38 = false := by kernel_rfl
@[go_sem] theorem str_38 : strT Tryz.prog 38 = false := by kernel_rfl
@[go_sem] theorem str_106 : strT Tryz.prog 106 = false := by kernel_rfl
@[go_sem] theorem str_39 : strT Tryz.prog 39 = false := by kernel_rfl
@[go_sem] theorem bool_5 : boolT Tryz.prog 5 = false := by kernel_rfl
@[go_sem] theorem zero_76 : zeroT Tryz.prog 76 = some (.agg [.d (.bool false), .d (.int .i64 0), .d (.str []), .d (.int .i64 0), .d (.int .i64 0), .d (.int .i64 0), .d (.str []), .nilS, .d (.int .i64 0), .d (.int .i64 0), .d (.str []), .nilS, .nilS, .nilS, .d (.int .i64 0), .d (.int .i64 0), .d (.int .i64 0), .d (.str []), .nilS, .d (.bool false)]) := by kernel_rfl
@[go_sem] theorem fields_76 : fieldsT Tryz.prog 76 = some [(0, 1), (1, 13), (14, 1), (15, 4), (19, 1)] := by kernel_rfl
@[go_sem] theorem room_76_20 : aroomT Tryz.prog 76 20 = true := by kernel_rfl
@[go_sem] theorem bool_2 : boolT Tryz.prog 2 = false := by kernel_rfl
@[go_sem] theorem bool_112 : boolT Tryz.prog 112 = false := by kernel_rfl
@[go_sem] theorem conv_112_5 : convT Tryz.prog 112 5 = some .u8 := by kernel_rfl
@[go_sem] theorem str_112 : strT Tryz.prog 112 = false := by kernel_rfl
@[go_sem] theorem bytes_39_9 : bytesT Tryz.prog 39 9 = true := by kernel_rfl
@[go_sem] theorem field_85_2 : fieldT Tryz.prog 85 2 = some (2, 1, false) := by kernel_rfl
@[go_sem] theorem kind_63 : kindT Tryz.prog 63 = some (1, false) := by kernel_rfl
@[go_sem] theorem elem_9 : elemT Tryz.prog 9 = none := by kernel_rfl
@[go_sem] theorem conv_2_112 : convT Tryz.prog 2 112 = some .u64 := by kernel_rfl
@[go_sem] theorem str_2 : strT Tryz.prog 2 = false := by kernel_rfl
@[go_sem] theorem zero_115 : zeroT Tryz.prog 115 = some (.agg [.d (.int .u8 0), .d (.int .u8 0), .d (.int .u8 0), .d (.int .u8 0), .d (.int .u8 0), .d (.int .u8 0), .d (.int .u8 0), .d (.int .u8 0), .d (.int .u8 0), .d (.int .u8 0), .d (.int .u8 0), .d (.int .u8 0), .d (.int .u8 0), .d (.int .u8 0), .d (.int .u8 0), .d (.int .u8 0), .d (.int .u8 0), .d (.int .u8 0), .d (.int .u8 0), .d (.int .u8 0), .d (.int .u8 0), .d (.int .u8 0), .d (.int .u8 0), .d (.int .u8 0)]) := by kernel_rfl
@[go_sem] theorem str_115 : strT Tryz.prog 115 = false := by kernel_rfl
@[go_sem] theorem elem_115 : elemT Tryz.prog 115 = none := by kernel_rfl
@[go_sem] theorem arr_115 : arrT Tryz.prog 115 = some (24, 1, false) := by kernel_rfl
@[go_sem] theorem kind_5 : kindT Tryz.prog 5 = some (1, false) := by kernel_rfl
@[go_sem] theorem arr_121 : arrT Tryz.prog 121 = some (20, 1, false) := by kernel_rfl
@[go_sem] theorem elem_121 : elemT Tryz.prog 121 = none := by kernel_rfl
@[go_sem] theorem kind_112 : kindT Tryz.prog 112 = some (1, false) := by kernel_rfl
@[go_sem] theorem conv_112_122 : convT Tryz.prog 112 122 = some .u32 := by kernel_rfl
@[go_sem] theorem str_122 : strT Tryz.prog 122 = false := by kernel_rfl
@[go_sem] theorem bool_122 : boolT Tryz.prog 122 = false := by kernel_rfl
@[go_sem] theorem arr_39 : arrT Tryz.prog 39 = none := by kernel_rfl
@[go_sem] theorem conv_122_5 : convT Tryz.prog 122 5 = some .u8 := by kernel_rfl
@[go_sem] theorem zero_123 : zeroT Tryz.prog 123 = some (.agg [.d (.int .u8 0), .d (.int .u8 0), .d (.int .u8 0), .d (.int .u8 0), .d (.int .u8 0), .d (.int .u8 0), .d (.int .u8 0), .d (.int .u8 0), .d (.int .u8 0), .d (.int .u8 0), .d (.int .u8 0), .d (.int .u8 0), .d (.int .u8 0), .d (.int .u8 0), .d (.int .u8 0), .d (.int .u8 0), .d (.int .u8 0), .d (.int .u8 0), .d (.int .u8 0), .d (.int .u8 0), .d (.int .u8 0), .d (.int .u8 0), .d (.int .u8 0), .d (.int .u8 0), .d (.int .u8 0), .d (.int .u8 0), .d (.int .u8 0), .d (.int .u8 0), .d (.int .u8 0), .d (.int .u8 0), .d (.int .u8 0), .d (.int .u8 0), .d (.int .u8 0), .d (.int .u8 0), .d (.int .u8 0), .d (.int .u8 0), .d (.int .u8 0), .d (.int .u8 0), .d (.int .u8 0), .d (.int .u8 0), .d (.int .u8 0), .d (.int .u8 0), .d (.int .u8 0), .d (.int .u8 0), .d (.int .u8 0), .d (.int .u8 0), .d (.int .u8 0), .d (.int .u8 0), .d (.int .u8 0), .d (.int .u8 0), .d (.int .u8 0), .d (.int .u8 0), .d (.int .u8 0), .d (.int .u8 0), .d (.int .u8 0), .d (.int .u8 0), .d (.int .u8 0), .d (.int .u8 0), .d (.int .u8 0), .d (.int .u8 0), .d (.int .u8 0), .d (.int .u8 0), .d (.int .u8 0), .d (.int .u8 0), .d (.int .u8 0)]) := by kernel_rfl
@[go_sem] theorem conv_3_125 : convT Tryz.prog 3 125 = some .u64 := by kernel_rfl
@[go_sem] theorem str_3 : strT Tryz.prog 3 = false := by kernel_rfl
@[go_sem] theorem str_125 : strT Tryz.prog 125 = false := by kernel_rfl
@[go_sem] theorem conv_3_112 : convT Tryz.prog 3 112 = some .u64 := by kernel_rfl
@[go_sem] theorem bool_125 : boolT Tryz.prog 125 = false := by kernel_rfl
@[go_sem] theorem arr_123 : arrT Tryz.prog 123 = some (65, 1, false) := by kernel_rfl
@[go_sem] theorem elem_123 : elemT Tryz.prog 123 = none := by kernel_rfl
@[go_sem] theorem str_123 : strT Tryz.prog 123 = false := by kernel_rfl
@[go_sem] theorem conv_5_3 : convT Tryz.prog 5 3 = some .i64 := by kernel_rfl
@[go_sem] theorem conv_125_122 : convT Tryz.prog 125 122 = some .u32 := by kernel_rfl
@[go_sem] theorem arr_128 : arrT Tryz.prog 128 = some (32, 1, false) := by kernel_rfl
@[go_sem] theorem elem_128 : elemT Tryz.prog 128 = none := by kernel_rfl
@[go_sem] theorem arr_129 : arrT Tryz.prog 129 = some (64, 1, false) := by kernel_rfl
@[go_sem] theorem elem_129 : elemT Tryz.prog 129 = none := by kernel_rfl
attribute [go_sem] List.getElem?_toArray List.getElem?_cons_zero List.getElem?_cons_succ List.length_cons List.length_nil List.take_succ_cons List.take_zero List.drop_succ_cons List.drop_zero List.drop_nil List.take_nil List.nil_append List.cons_append List.append_nil List.contains_cons List.contains_nil Bool.or_false Bool.false_or Bool.or_true Bool.true_or Bool.and_true Bool.true_and Bool.and_false Bool.false_and Bool.not_true Bool.not_false Bool.not_not Option.isSome_some Option.isSome_none List.map_cons List.map_nil ite_not not_true_eq_false not_false_eq_true Nat.zero_add Nat.add_zero
end Go.Proofs.YtfflfaedghfmdaaGreatDoor
