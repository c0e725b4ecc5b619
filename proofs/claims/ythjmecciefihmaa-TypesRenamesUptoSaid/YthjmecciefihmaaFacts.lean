/- Facts of this program that the walks look up: which slots live on, which escape, how wide the types are. -/
import Derived.Test.YthjmecciefihmaaProg
import Derived.KernelRfl
import Derived.Test.YthjmecciefihmaaGenC
import Derived.Test.YthjmecciefihmaaGenB
set_option linter.unusedVariables false
set_option linter.unusedSimpArgs false
set_option linter.all false
set_option linter.deprecated false
set_option linter.unusedVariables false
set_option linter.all false
namespace Go.Proofs.Ythjmecciefihmaa
open Go.Abs
def escT (f : Nat) : List Nat := bif Nat.blt f 61 then (bif Nat.blt f 30 then ([]) else (bif Nat.blt f 45 then (bif Nat.blt f 37 then ([]) else (bif Nat.blt f 41 then (bif Nat.blt f 39 then ([]) else (bif Nat.blt f 40 then ([21]) else ([]))) else (bif Nat.blt f 43 then ([]) else (bif Nat.blt f 44 then ([3]) else ([]))))) else ([]))) else (bif Nat.blt f 92 then (bif Nat.blt f 76 then (bif Nat.blt f 68 then (bif Nat.blt f 64 then (bif Nat.blt f 62 then ([3]) else ([])) else ([])) else (bif Nat.blt f 72 then (bif Nat.blt f 70 then (bif Nat.blt f 69 then ([]) else ([11])) else ([])) else ([]))) else (bif Nat.blt f 84 then (bif Nat.blt f 80 then ([]) else (bif Nat.blt f 82 then ([]) else (bif Nat.blt f 83 then ([]) else ([4])))) else ([]))) else ([]))
def liveL (f : Nat) : List (Nat × List Nat) := bif Nat.blt f 61 then (bif Nat.blt f 30 then (bif Nat.blt f 15 then (bif Nat.blt f 7 then (bif Nat.blt f 3 then (bif Nat.blt f 1 then ([]) else (bif Nat.blt f 2 then ([]) else ([(0, [])]))) else (bif Nat.blt f 5 then (bif Nat.blt f 4 then ([(0, [0, 1]), (1, [1, 2]), (2, []), (3, [2, 1]), (4, [2, 1, 5, 6]), (5, [5, 7, 6, 8])]) else ([(0, [0]), (1, [1]), (2, []), (3, [1])])) else (bif Nat.blt f 6 then ([(0, [0]), (1, [1]), (2, []), (3, [1])]) else ([(0, [0, 1]), (1, [2, 1]), (2, []), (3, [1, 2]), (4, [2, 1, 5]), (6, [2, 1, 5]), (7, []), (5, [5, 1, 2]), (8, [2, 1])])))) else (bif Nat.blt f 11 then (bif Nat.blt f 9 then (bif Nat.blt f 8 then ([(0, [0]), (1, [1]), (2, []), (3, [1]), (4, [1, 3]), (5, [3, 4, 1]), (7, [3, 4, 1]), (6, [4, 1, 3]), (8, [1, 3]), (9, [5, 1, 3]), (10, [3, 1, 5, 6]), (12, [3, 1, 5, 6]), (13, []), (11, [6, 5, 1, 3]), (14, [1, 3])]) else ([(0, [0, 1, 2]), (1, [3, 1, 2]), (2, []), (3, [2, 1, 3]), (4, [8, 2, 1, 3, 7]), (5, []), (6, [7, 3, 1, 2]), (7, [7, 3, 1, 2, 10, 9]), (8, []), (9, [9, 10, 2, 1]), (10, [1, 2, 10, 9, 11]), (12, [1, 2, 10, 9, 11]), (13, [12, 1, 2, 10, 9, 11]), (14, [1, 2, 10, 9, 11]), (15, [12, 1, 2, 10, 9, 11]), (16, []), (11, [11, 9, 10, 2, 1]), (17, [])])) else (bif Nat.blt f 10 then ([(0, [0, 2, 1]), (1, [2, 3, 1]), (2, []), (3, [1, 3, 2]), (4, [8, 1, 3, 2, 7]), (5, [7]), (6, [2, 7, 3, 1]), (7, [9, 2, 7, 3, 1]), (8, [9, 2, 7, 3, 1]), (9, [7, 3, 1, 9]), (10, [10, 11, 7, 3, 1, 9]), (11, []), (12, [9, 1, 3, 7]), (13, [3, 9, 7]), (14, [7, 10, 11])]) else ([(0, [0]), (1, [1]), (2, []), (3, [1]), (4, [1, 3]), (5, [3, 4]), (6, [4, 3, 5]), (8, [4, 3, 5]), (9, [6, 4, 3, 5]), (10, [7, 6, 4, 3, 5]), (11, [7, 35, 6, 4, 3, 5]), (12, [7, 35, 6, 4, 3, 5]), (15, [35, 7, 6, 4, 3, 5]), (17, [7, 35, 6, 4, 3, 5]), (19, [35, 7, 6, 4, 3, 5]), (21, [7, 35, 6, 4, 3, 5]), (23, [35, 7, 6, 4, 3, 5]), (24, [6, 4, 3, 5]), (22, [6, 4, 3, 5]), (20, [6, 4, 3, 5]), (18, [6, 4, 3, 5]), (16, [6, 4, 3, 5]), (13, [6, 4, 3, 5]), (14, [9, 6, 8, 4, 3, 5]), (25, [7, 4, 3, 5]), (26, []), (7, [5, 3, 4]), (27, [])]))) else (bif Nat.blt f 13 then (bif Nat.blt f 12 then ([(0, [0, 1]), (1, [2, 1])]) else ([(0, [0]), (1, [0]), (2, []), (3, [0]), (4, [0, 3]), (6, [0, 3]), (7, []), (5, [3, 0]), (8, [])])) else (bif Nat.blt f 14 then ([(0, []), (1, []), (2, [2, 1]), (3, [4, 2, 1]), (4, [6, 4, 2, 1]), (5, [7, 6, 4, 2, 1]), (6, [7, 8, 6, 4, 2, 1]), (7, [7, 9, 8, 6, 4, 2, 1]), (8, [10, 9, 8, 6, 4, 2, 1]), (9, [11, 10, 9, 8, 6, 4, 2, 1]), (10, []), (11, [1, 2, 4, 6, 8, 9, 10])]) else ([(0, [0, 1]), (1, [2, 1]), (2, [2, 1, 6]), (3, [6]), (4, [1, 2]), (5, [1, 7, 2]), (6, [20, 7, 18, 2, 19]), (7, [20, 7, 18, 2, 19]), (8, [9, 20, 7, 18, 2, 19]), (9, [11, 9, 20, 7, 18, 2, 19]), (10, [9, 20, 7, 18, 2, 19]), (11, [20, 7, 18, 2, 19]), (12, [2, 7])]))))) else (bif Nat.blt f 22 then (bif Nat.blt f 18 then (bif Nat.blt f 16 then ([(0, [0, 1]), (1, [1, 2]), (2, [1, 2, 6]), (3, [6]), (4, [2, 1])]) else (bif Nat.blt f 17 then ([(0, [0, 1]), (1, [1, 2]), (2, []), (3, [2, 1]), (4, [1, 2, 5]), (6, [1, 2, 5]), (7, []), (5, [5, 2, 1]), (8, [2, 1])]) else ([(0, [0]), (1, [1]), (2, [4])]))) else (bif Nat.blt f 20 then (bif Nat.blt f 19 then ([(0, [0]), (1, [1]), (2, [1, 3]), (3, [3]), (4, [1]), (5, [1, 4]), (6, [4, 1, 5]), (8, [4, 1, 5]), (9, []), (10, [5, 1, 4]), (7, [5, 1, 4]), (11, [4, 1]), (12, [6, 4, 1]), (13, [7, 6, 4, 1]), (15, [7, 6, 4, 1]), (16, [1, 4, 6, 7, 8]), (18, [1, 4, 6, 7, 8]), (19, []), (17, [8, 7, 6, 4, 1]), (14, [7, 6, 4, 1]), (20, [4, 1])]) else ([(0, [0, 1]), (1, [0, 1]), (2, []), (3, [1, 0]), (4, [0, 1, 5]), (6, [0, 1, 5]), (7, []), (5, [5, 1, 0]), (8, [])])) else (bif Nat.blt f 21 then ([(0, [0]), (1, [1]), (2, [4, 3, 1]), (3, []), (4, [1, 3]), (5, [1, 3, 5]), (6, [5, 18, 3, 16, 17]), (7, [5, 18, 3, 16, 17]), (8, [5, 7, 18, 3, 16, 17]), (9, [18, 3, 5, 16, 17]), (10, [5])]) else ([(0, [0]), (1, [1]), (2, []), (3, [1]), (4, [3, 1]), (5, [1, 3]), (6, [4, 3]), (7, [5, 4, 3]), (9, [5, 4, 3]), (10, [3, 5, 4]), (11, [3, 6, 5, 4]), (12, [3, 6, 5, 4]), (13, [3, 7, 6, 5, 4]), (14, [3, 6, 5, 4]), (15, [3, 6, 5, 4]), (8, [5, 4, 3]), (16, [3])])))) else (bif Nat.blt f 26 then (bif Nat.blt f 24 then (bif Nat.blt f 23 then ([(0, [0, 1]), (1, [2, 1]), (2, []), (3, [1, 2]), (4, [21, 20, 2, 22]), (5, [21, 20, 2, 22]), (6, [6, 5, 21, 20, 2, 22]), (7, [6, 5, 7, 21, 20, 2, 22]), (8, [7, 8, 21, 20, 2, 22]), (9, []), (10, [22, 2, 20, 21]), (11, [])]) else ([(0, [0, 1]), (1, [1, 2]), (2, []), (3, [2, 1]), (4, [1, 2, 5]), (6, [1, 2, 5]), (7, []), (5, [5, 2, 1]), (8, [])])) else (bif Nat.blt f 25 then ([(0, [0]), (1, [1]), (2, [1, 3]), (3, [3, 4, 1]), (5, [3, 4, 1]), (4, [4, 1, 3]), (6, [1, 3]), (7, [5, 3]), (8, [3, 6, 5]), (10, [3, 6, 5]), (11, [3, 6, 5]), (9, [6, 5, 3]), (12, [3])]) else ([(0, [1, 0]), (1, [1, 0]), (2, [0, 1, 5]), (4, [0, 1, 5]), (5, []), (3, [5, 1, 0]), (6, [])]))) else (bif Nat.blt f 28 then (bif Nat.blt f 27 then ([(0, [2, 1, 0]), (1, [2, 1, 0]), (2, [1, 7, 2, 0]), (4, [1, 7, 2, 0]), (5, [1, 8, 7, 2, 0]), (6, []), (7, [0, 2, 7, 8, 1]), (8, [10, 9, 0, 2, 7, 8, 1]), (9, [0, 2, 7, 8, 1]), (10, [9, 10, 0, 2, 7, 8, 1]), (11, []), (12, [1, 8, 7, 2, 0]), (13, [1, 8, 7, 2, 0]), (3, [7, 2, 1, 0]), (14, [])]) else ([(0, [0, 1, 2]), (1, [1, 3, 2, 6]), (2, [6]), (3, [2, 3, 1, 6]), (4, [6]), (5, [1, 3, 2, 6]), (6, [1, 8, 3, 2, 6]), (7, [1, 8, 9, 3, 2, 6]), (8, [9, 10, 1, 8, 3, 2, 6]), (10, [9, 10, 1, 8, 3, 2, 6]), (9, [10, 1, 8, 9, 3, 2, 6]), (11, [9, 3, 2, 1, 6]), (12, [6]), (13, [1, 2, 3, 6]), (14, [6]), (15, [3, 2, 1, 6]), (16, [11, 3, 2, 1, 6]), (17, [12, 11, 3, 2, 1, 6]), (19, [12, 11, 3, 2, 1, 6]), (18, [12, 11, 3, 2, 1, 6]), (20, [11, 6])])) else (bif Nat.blt f 29 then ([(0, [0]), (1, [1])]) else ([(0, [0]), (1, [0, 2])])))))) else (bif Nat.blt f 45 then (bif Nat.blt f 37 then (bif Nat.blt f 33 then (bif Nat.blt f 31 then ([(0, [0, 1, 2, 3]), (1, [4, 1, 2, 3]), (2, [10, 2, 9, 3])]) else (bif Nat.blt f 32 then ([(0, [0, 1]), (1, [1, 2]), (2, [5, 1, 2]), (3, [5, 6, 1, 2]), (5, [5, 6, 1, 2]), (4, [6, 5, 1, 2]), (6, [5])]) else ([(0, []), (1, [0])]))) else (bif Nat.blt f 35 then (bif Nat.blt f 34 then ([(0, [0]), (1, [0, 2])]) else ([(0, [0]), (1, [1])])) else (bif Nat.blt f 36 then ([(0, [0, 1]), (1, [1, 2]), (2, [1, 2]), (3, [7, 6]), (5, [6]), (6, []), (4, []), (7, [6]), (8, [1, 2]), (9, [8, 1, 2]), (10, [40, 2, 39, 1, 41, 8]), (11, [40, 2, 39, 1, 41, 8]), (12, [10, 40, 2, 39, 1, 41, 8]), (13, [40, 2, 39, 1, 41, 11, 8, 12]), (14, [12]), (15, [8, 11, 41, 1, 39, 2, 40]), (16, [41, 8, 1, 39, 2, 40]), (17, [2, 8]), (18, [2, 8]), (19, []), (20, []), (21, [2, 8]), (22, [8, 13, 14]), (23, [90, 14, 89, 13, 91]), (24, [90, 14, 89, 13, 91]), (25, [16, 90, 14, 89, 13, 91]), (26, []), (27, [91, 13, 89, 14, 90]), (28, [14])]) else ([(0, [0]), (1, [1])])))) else (bif Nat.blt f 41 then (bif Nat.blt f 39 then (bif Nat.blt f 38 then ([(0, [0, 1]), (1, [2, 1]), (2, [6, 2, 1]), (3, [2, 1]), (4, [2, 1, 6]), (5, [7, 2, 1, 6, 8]), (6, [8]), (7, [6, 1, 2, 7]), (8, [2, 7]), (9, [7, 9, 10]), (10, []), (11, [10]), (12, [1, 7, 2]), (13, [11, 7, 2, 8]), (14, [8]), (15, [2, 7, 11]), (16, [12]), (17, []), (18, [12])]) else ([(0, [1, 0]), (1, [1, 0]), (2, [1, 0, 5]), (3, [5, 6, 1, 0]), (5, [5, 6, 1, 0]), (6, [5, 6, 1, 0]), (7, [5, 6, 1, 0]), (8, [5, 6, 1, 0]), (9, [5, 6, 1, 0]), (4, [6, 1, 0, 5]), (10, [5])])) else (bif Nat.blt f 40 then ([(0, [0]), (1, [1]), (2, [1, 4]), (3, [4]), (4, [1]), (5, [5, 1]), (6, [24, 1, 23, 5, 25]), (7, [24, 1, 23, 5, 25]), (8, [24, 1, 23, 5, 25, 7]), (9, []), (10, [7, 25, 5, 23, 1, 24]), (11, [25, 5, 23, 1, 24]), (12, [1, 5]), (13, [8, 1, 5]), (14, [42, 5, 1, 41, 8, 43]), (15, [42, 5, 1, 41, 8, 43]), (16, [42, 5, 1, 41, 8, 43, 10]), (17, []), (18, [10, 43, 8, 41, 1, 5, 42]), (19, [43, 8, 41, 1, 5, 42]), (20, [1, 5]), (21, [5, 11])]) else ([(0, [0]), (1, [1]), (2, []), (3, [1]), (4, [1, 3]), (5, [3]), (6, [1]), (7, [4]), (8, [4, 5]), (10, [4, 5]), (11, [4, 5]), (12, [4, 5, 6]), (13, [6]), (9, [5, 4]), (14, [4]), (15, []), (16, [])]))) else (bif Nat.blt f 43 then (bif Nat.blt f 42 then ([(0, [0, 2, 3, 1]), (1, [2, 4, 3, 1, 8]), (2, [2, 4, 3, 1, 9, 8]), (3, [2, 4, 3, 1, 9, 8]), (4, [4, 3, 1, 9, 8]), (5, [3, 1, 9, 8]), (6, [1, 9, 8]), (7, [9, 8])]) else ([(0, [0, 1]), (1, [2, 1]), (2, [1, 2, 5]), (4, [1, 2, 5]), (5, [1, 2, 5, 6]), (6, [9, 8, 1, 2, 5, 7, 6]), (7, [8, 1, 2, 5, 7, 6]), (8, [8, 9, 1, 2, 5, 7, 6]), (9, [1, 2, 5, 7, 6]), (10, [9, 1, 2, 5, 7, 6]), (11, [1, 2, 5, 7, 6]), (12, [9, 1, 2, 5, 7, 6]), (13, [1, 2, 5, 7, 6]), (14, [9, 1, 2, 5, 7, 6]), (15, [1, 2, 5, 7, 6]), (16, [1, 2, 5, 7, 6, 9]), (17, [9]), (18, [6, 7, 5, 2, 1]), (19, [6, 7, 5, 2, 1]), (3, [5, 2, 1]), (20, [])])) else (bif Nat.blt f 44 then ([(0, [0]), (1, [1]), (2, [3, 1]), (3, [9, 3, 7, 1, 8]), (4, [9, 3, 7, 1, 8]), (5, [5, 9, 3, 7, 1, 8]), (6, [9, 3, 7, 1, 8]), (7, [1, 3]), (8, [3])]) else ([(0, [0]), (1, [0]), (2, [0, 3]), (4, [0, 3]), (5, []), (3, [3, 0]), (6, [0])]))))) else (bif Nat.blt f 53 then (bif Nat.blt f 49 then (bif Nat.blt f 47 then (bif Nat.blt f 46 then ([(0, [0, 1]), (1, [1, 2]), (2, [2]), (3, [2])]) else ([(0, [0, 1]), (1, [2, 1]), (2, []), (3, [1, 2]), (4, [2, 1, 5]), (6, [2, 1, 5]), (7, []), (5, [5, 1, 2]), (8, [])])) else (bif Nat.blt f 48 then ([(0, [0, 1]), (1, [0, 1]), (2, [5, 0, 1]), (3, [5, 1])]) else ([(0, [0]), (1, [0])]))) else (bif Nat.blt f 51 then (bif Nat.blt f 50 then ([(0, [0, 1]), (1, [1, 2]), (2, [2, 1, 5]), (4, [2, 1, 5]), (5, []), (3, [5, 1, 2]), (6, [2, 1]), (7, [1, 6]), (8, [6, 1, 7]), (10, [6, 1, 7]), (11, []), (9, [7, 1, 6]), (12, [])]) else ([(0, [2, 1, 0]), (1, [2, 1, 0]), (2, [7, 2, 1, 0]), (3, [7, 8, 2, 1, 0]), (5, [7, 8, 2, 1, 0]), (6, [7, 9, 8, 2, 1, 0]), (7, [7, 9, 8, 2, 1, 0]), (8, [7, 9, 8, 2, 1, 0]), (9, [7, 9, 8, 2, 1, 0]), (10, [7, 9, 8, 2, 1, 0]), (11, [7, 9, 8, 2, 1, 0]), (4, [8, 7, 2, 1, 0]), (12, [7])])) else (bif Nat.blt f 52 then ([(0, [1, 0, 2]), (1, [1, 0, 2]), (2, [2]), (3, [0])]) else ([(0, [2, 1, 0]), (1, [2, 1, 0]), (2, [0, 7, 2, 1]), (4, [0, 7, 2, 1]), (5, [0, 7, 2, 1]), (6, [0, 7, 2, 1]), (7, [0, 7, 2, 1]), (8, [0, 7, 2, 1]), (9, [0, 7, 2, 1]), (10, [0, 7, 2, 1]), (3, [7, 2, 1, 0]), (11, [0])])))) else (bif Nat.blt f 57 then (bif Nat.blt f 55 then (bif Nat.blt f 54 then ([(0, [0, 1]), (1, [1, 2]), (2, [1, 2, 5]), (3, [5]), (4, [2, 1]), (5, [17, 16, 1, 18]), (6, [17, 16, 1, 18]), (7, [7, 17, 16, 1, 18]), (8, [17, 16, 1, 18, 8]), (9, [8]), (10, [18, 1, 16, 17]), (11, [])]) else ([(0, [1, 0]), (1, [1, 0])])) else (bif Nat.blt f 56 then ([(0, [0]), (1, [0]), (2, [4]), (3, [4]), (4, [4]), (5, [4]), (6, [4]), (7, [4]), (8, [4]), (9, [4]), (10, [4]), (11, [4]), (13, [4]), (14, [4]), (15, [4]), (17, [4]), (18, [4]), (19, [4]), (21, [4]), (23, [4]), (24, [4]), (25, []), (22, []), (20, []), (16, []), (12, []), (26, [])]) else ([(0, [0, 1]), (1, [2, 1]), (2, [2, 1, 5]), (3, [5]), (4, [1, 2]), (5, [2, 1, 6]), (7, [2, 1, 6]), (8, [2, 1, 6, 7]), (9, [7]), (6, [6, 1, 2]), (10, [])]))) else (bif Nat.blt f 59 then (bif Nat.blt f 58 then ([(0, [0]), (1, [0]), (2, [0, 3]), (3, [0, 3]), (4, [0, 3]), (5, [0, 3]), (6, [0, 3]), (7, [0, 3]), (9, [3, 0]), (10, [3, 0]), (11, [3, 0]), (12, [3, 0]), (13, [3, 0]), (14, [3, 0]), (15, [3, 0]), (16, []), (8, []), (17, [0]), (18, []), (19, [])]) else ([(0, [0, 1]), (1, [1, 2]), (2, [1, 2]), (3, [2]), (4, []), (5, [])])) else (bif Nat.blt f 60 then ([(0, [0]), (1, [0]), (2, [4]), (4, [4]), (6, [4]), (8, [4]), (9, [4]), (11, [4]), (12, []), (10, []), (7, []), (5, []), (3, []), (13, [])]) else ([(0, [2, 1, 0]), (1, [2, 1, 0]), (2, []), (3, [0, 1]), (4, []), (5, [1, 0]), (6, []), (7, [0, 1]), (8, []), (9, [])]))))))) else (bif Nat.blt f 92 then (bif Nat.blt f 76 then (bif Nat.blt f 68 then (bif Nat.blt f 64 then (bif Nat.blt f 62 then ([(0, [0]), (1, [1]), (2, []), (3, [1]), (4, [1, 3]), (5, [3]), (6, [1, 3]), (7, [4, 3]), (8, []), (9, [3])]) else (bif Nat.blt f 63 then ([(0, [0, 1, 2]), (1, [0, 1, 2])]) else ([(0, [0, 1]), (1, [0, 1]), (2, [11, 1, 10, 0, 12]), (3, [11, 1, 10, 0, 12]), (4, [6, 11, 1, 10, 0, 12]), (5, [11, 1, 10, 0, 12, 7]), (6, [7]), (7, [12, 0, 10, 1, 11]), (8, [1, 0]), (9, [25, 0, 23, 24]), (10, [25, 0, 23, 24]), (11, [9, 25, 0, 23, 24]), (12, [9, 25, 0, 23, 24]), (13, [25, 0, 23, 24]), (14, [])]))) else (bif Nat.blt f 66 then (bif Nat.blt f 65 then ([(0, [0]), (1, [0]), (2, []), (3, [0]), (4, [3, 0]), (6, [3, 0]), (7, []), (8, [0, 3]), (9, []), (10, [3, 0]), (11, [0, 3, 4]), (13, [0, 3, 4]), (14, []), (12, [4, 3, 0]), (5, [3, 0]), (15, [])]) else ([(0, [0, 1]), (1, [2, 1]), (2, [6, 9, 10, 5, 8, 2, 1, 7]), (3, []), (4, [7, 1, 2, 8, 5]), (5, []), (6, [5, 8, 2, 1, 7]), (7, []), (8, [7, 1, 2, 8]), (9, [1, 2, 8]), (10, [1, 2, 8, 11]), (11, [11]), (12, [8, 2, 1]), (13, [2, 1]), (14, [1, 12]), (15, [12]), (16, [1]), (17, []), (18, [])])) else (bif Nat.blt f 67 then ([(0, [0, 1]), (1, [3, 2]), (2, []), (3, [2, 3]), (4, [2, 3, 7, 8]), (5, [7, 8]), (6, [3, 2, 7]), (7, [7, 9, 8])]) else ([(0, [0, 2, 1]), (1, [2, 3, 1]), (2, [7, 2, 3, 1, 8]), (3, [8]), (4, [1, 3, 2, 7]), (5, [7, 2, 3, 1, 9]), (7, [7, 2, 3, 1, 9]), (8, []), (6, [9, 1, 3, 2, 7]), (9, [2, 7]), (10, []), (11, [])])))) else (bif Nat.blt f 72 then (bif Nat.blt f 70 then (bif Nat.blt f 69 then ([(0, [0, 1, 2]), (1, [0, 1, 2]), (2, [7, 1, 2]), (4, [7, 2, 1]), (6, [2, 7, 1]), (8, [7, 1, 2]), (10, [7, 1]), (11, [1]), (9, [1, 2]), (7, [1]), (5, [1]), (3, [1, 2]), (12, [])]) else ([(0, [0, 1, 2]), (1, [1, 2, 3]), (2, [3, 7]), (3, [7])])) else (bif Nat.blt f 71 then ([(0, [0, 2]), (1, [3, 2]), (2, [3, 2])]) else ([(0, [0])]))) else (bif Nat.blt f 74 then (bif Nat.blt f 73 then ([(0, [0]), (1, [0]), (2, []), (3, [0]), (4, [0, 3]), (6, [0, 3]), (7, []), (5, [3, 0]), (8, [])]) else ([(0, [0]), (1, [0])])) else (bif Nat.blt f 75 then ([(0, [1, 0]), (1, [1, 0]), (2, [1, 0]), (3, [1])]) else ([(0, [0]), (1, [0])]))))) else (bif Nat.blt f 84 then (bif Nat.blt f 80 then (bif Nat.blt f 78 then (bif Nat.blt f 77 then ([(0, [0, 2, 1]), (1, [2, 1, 3, 6]), (2, [7, 2, 1, 3, 6]), (3, [7, 2, 1, 3, 6]), (4, [7, 2, 1, 3, 6]), (5, [8, 7, 2, 1, 3, 6]), (7, [8, 7, 2, 1, 3, 6]), (6, [8, 7, 2, 1, 3, 6]), (8, [7, 6])]) else ([(0, [0]), (1, [1])])) else (bif Nat.blt f 79 then ([(0, [1, 2, 0]), (1, [4, 2, 0]), (2, [0]), (3, [0, 2, 4]), (4, [4, 0]), (5, [0, 7, 4]), (7, [0, 7, 4]), (6, [7, 4, 0]), (8, [0])]) else ([(0, [0, 1]), (1, [2, 1]), (2, [2, 5, 1]), (4, [1, 5, 2]), (6, [2, 5, 1]), (8, [1]), (9, []), (7, []), (5, []), (3, []), (10, [])]))) else (bif Nat.blt f 82 then (bif Nat.blt f 81 then ([(0, [0, 1]), (1, [2, 1]), (2, []), (3, [1, 2]), (4, []), (5, [2, 1]), (6, []), (7, [1]), (8, []), (9, [])]) else ([(0, [0, 1]), (1, [0, 1]), (2, [1, 6, 0]), (4, [1, 6, 0]), (5, [6, 0]), (6, []), (7, [0, 6]), (3, [6, 0, 1]), (8, [])])) else (bif Nat.blt f 83 then ([(0, [0]), (1, [0])]) else ([(0, [0]), (1, [0]), (2, []), (3, [0]), (4, [9, 8, 0, 10]), (5, [9, 8, 0, 10]), (6, [3, 4, 9, 8, 0, 10]), (8, [10, 0, 8, 9, 4, 3]), (10, [3, 4, 9, 8, 0, 10]), (11, []), (9, []), (7, []), (12, [10, 0, 8, 9]), (13, [])])))) else (bif Nat.blt f 88 then (bif Nat.blt f 86 then (bif Nat.blt f 85 then ([(0, [0, 1, 2]), (1, [3, 1, 2]), (2, [3, 1, 2])]) else ([(0, [0, 1]), (1, [1, 2]), (2, [6, 1, 2, 5]), (3, []), (4, [5, 2, 1]), (5, []), (6, [1, 2, 5]), (7, [1, 2, 5]), (8, [1, 2, 5, 7]), (9, [7]), (10, [5, 2, 1]), (11, [2, 1]), (12, [1, 8]), (13, [8]), (14, [1]), (15, []), (16, [])])) else (bif Nat.blt f 87 then ([(0, [1, 0]), (1, [3, 0]), (2, [5, 3, 0, 6, 7]), (3, [7]), (4, [6, 0, 3, 5]), (5, [23, 6, 0, 3, 5]), (7, [6, 23, 5, 3, 0]), (15, [3, 0, 23, 5, 6]), (18, [6, 23, 0, 3, 5]), (21, [3, 0, 23, 6, 5]), (24, [6, 23, 5, 0, 3]), (31, [23, 5, 6, 3, 0]), (32, [5, 6, 3, 0]), (33, []), (34, [0, 3]), (35, [0, 3]), (36, [0, 3]), (37, [0, 3, 11]), (38, [11]), (25, [5, 0, 3]), (26, []), (27, [3, 0]), (28, [3, 0, 10]), (29, [10]), (30, [0, 3]), (22, [5]), (23, []), (19, [5]), (20, []), (16, [5, 6]), (17, []), (8, [5, 3, 0]), (9, [9, 8, 5, 3, 0]), (11, [0, 3, 5, 8]), (13, [8, 5]), (14, []), (12, []), (10, []), (6, [0, 3, 5]), (39, [])]) else ([(0, [0]), (1, [0]), (2, [8]), (3, [8]), (5, [8]), (7, [8]), (8, [8]), (10, [8]), (12, [8]), (13, []), (11, []), (9, []), (6, []), (4, []), (14, [])]))) else (bif Nat.blt f 90 then (bif Nat.blt f 89 then ([(0, [1, 0, 2]), (1, [9, 8, 2, 0, 10]), (2, [9, 8, 2, 0, 10]), (3, [9, 8, 2, 0, 10, 7]), (4, [7, 10, 0, 2, 8, 9]), (5, [7, 10, 0, 2, 8, 9]), (6, [7, 10, 0, 2, 8, 9]), (7, [7, 10, 0, 2, 8, 9]), (8, [7, 10, 0, 2, 8, 9]), (9, [7, 10, 0, 2, 8, 9]), (10, [10, 0, 2, 8, 9])]) else ([(0, [0]), (1, [0])])) else (bif Nat.blt f 91 then ([(0, [1, 0]), (1, [1, 0]), (2, [0, 1, 5]), (4, [0, 1, 5]), (5, []), (3, [5, 1, 0]), (6, [])]) else ([(0, []), (1, [])])))))) else (bif Nat.blt f 107 then (bif Nat.blt f 99 then (bif Nat.blt f 95 then (bif Nat.blt f 93 then ([(0, [0]), (1, [0]), (3, [0]), (5, [0]), (6, []), (4, []), (2, []), (7, [])]) else (bif Nat.blt f 94 then ([(0, [0]), (1, [0]), (2, [0, 3]), (4, [0, 3]), (5, []), (3, [3, 0]), (6, [0])]) else ([(0, [0]), (1, [0])]))) else (bif Nat.blt f 97 then (bif Nat.blt f 96 then ([(0, [0]), (1, [0]), (2, [6, 0]), (3, [7, 6, 0]), (4, [4, 6, 0, 3]), (5, [3]), (6, [0])]) else ([(0, [0]), (1, [0]), (2, [3]), (3, [3]), (4, [3]), (5, [3]), (6, [3]), (7, [3]), (8, [3]), (9, [3]), (10, [3]), (11, [3]), (12, [3]), (13, [3]), (14, [3]), (15, [3]), (16, [3]), (17, [3]), (18, [3]), (19, [3]), (20, [3]), (21, [3]), (22, [3]), (23, [3]), (24, [3]), (25, [3]), (26, [3]), (27, []), (28, [])])) else (bif Nat.blt f 98 then ([(0, [0, 1]), (1, [0, 1])]) else ([(0, [0, 1]), (1, [2, 1])])))) else (bif Nat.blt f 103 then (bif Nat.blt f 101 then (bif Nat.blt f 100 then ([(0, [0]), (1, [0, 2]), (2, [4, 2]), (3, [4, 2]), (5, [4, 2]), (7, [4, 2]), (8, [4, 2]), (10, [4, 2]), (12, [4, 2]), (14, [4, 2]), (15, [2]), (13, [2]), (11, [2]), (9, [2]), (6, [2]), (4, [2]), (16, [2])]) else ([(0, [0, 1]), (1, [3, 2]), (2, []), (3, [2]), (4, [68, 2]), (6, [68, 2]), (7, [2]), (5, [2]), (8, [])])) else (bif Nat.blt f 102 then ([(0, [1, 0]), (1, [0, 3, 5]), (2, []), (3, [5, 3, 0]), (4, [6, 5, 3, 0, 4]), (5, [3, 0, 4]), (6, [4, 5, 6])]) else ([(0, [1, 0]), (1, [3, 0]), (2, [0, 3]), (3, [0, 3])]))) else (bif Nat.blt f 105 then (bif Nat.blt f 104 then ([(0, [0]), (1, [0])]) else ([(0, [0, 1]), (1, [0, 1]), (2, [7, 1, 0, 8]), (3, [7, 1, 0, 8]), (4, [7, 1, 0, 8, 5]), (5, [5]), (6, [8, 0, 1, 7]), (7, [])])) else (bif Nat.blt f 106 then ([(0, [0]), (1, [1])]) else ([(0, [1, 0]), (1, [0, 3]), (2, [3, 0]), (3, [3, 0]), (4, [21, 0, 19, 20]), (5, [21, 0, 19, 20]), (6, [5, 21, 0, 19, 20]), (7, [21, 0, 19, 20])]))))) else ([])))

def okL : List Nat := [3, 4, 5, 6, 7, 8, 9, 10, 11, 12, 13, 14, 15, 16, 17, 18, 19, 20, 21, 22, 23, 24, 25, 26, 27, 28, 29, 30, 31, 32, 33, 34, 35, 36, 37, 38, 39, 40, 41, 42, 43, 44, 45, 46, 47, 48, 49, 50, 51, 52, 53, 54, 55, 56, 57, 58, 59, 60, 61, 62, 63, 64, 65, 66, 67, 68, 69, 70, 71, 72, 73, 74, 75, 76, 77, 78, 79, 80, 81, 82, 83, 84, 85, 86, 87, 88, 89, 90, 91, 92, 93, 94, 95, 96, 97, 98, 99, 100, 101, 102, 103, 104, 105, 106]


def findL : Nat → List (Nat × List Nat) → Option (List Nat)
  | _, [] => none
  | r, (s, l) :: rest => bif Nat.beq r s then some l else findL r rest
noncomputable def C : ACtx := { P := Try.prog, esc := escT, own := fun f => [78, 52].contains f, live := fun f r => findL r (liveL f), ext := fun f => bif Nat.beq f 13 then some (closedFn true) else none }
noncomputable def C0 : ACtx := { P := Try.prog, esc := escT, own := fun f => [78, 52].contains f, live := fun f r => findL r (liveL f), ext := fun _ => none }
@[go_sem] theorem C_P : C.P = Try.prog := by rfl
@[go_sem] theorem own_3 : C.own 3 = false := by rfl
@[go_sem] theorem own_4 : C.own 4 = false := by rfl
@[go_sem] theorem own_5 : C.own 5 = false := by rfl
@[go_sem] theorem own_6 : C.own 6 = false := by rfl
@[go_sem] theorem own_7 : C.own 7 = false := by rfl
@[go_sem] theorem own_8 : C.own 8 = false := by rfl
@[go_sem] theorem own_9 : C.own 9 = false := by rfl
@[go_sem] theorem own_10 : C.own 10 = false := by rfl
@[go_sem] theorem own_11 : C.own 11 = false := by rfl
@[go_sem] theorem own_12 : C.own 12 = false := by rfl
@[go_sem] theorem own_13 : C.own 13 = false := by rfl
@[go_sem] theorem own_14 : C.own 14 = false := by rfl
@[go_sem] theorem own_15 : C.own 15 = false := by rfl
@[go_sem] theorem own_16 : C.own 16 = false := by rfl
@[go_sem] theorem own_17 : C.own 17 = false := by rfl
@[go_sem] theorem own_18 : C.own 18 = false := by rfl
@[go_sem] theorem own_19 : C.own 19 = false := by rfl
@[go_sem] theorem own_20 : C.own 20 = false := by rfl
@[go_sem] theorem own_21 : C.own 21 = false := by rfl
@[go_sem] theorem own_22 : C.own 22 = false := by rfl
@[go_sem] theorem own_23 : C.own 23 = false := by rfl
@[go_sem] theorem own_24 : C.own 24 = false := by rfl
@[go_sem] theorem own_25 : C.own 25 = false := by rfl
@[go_sem] theorem own_26 : C.own 26 = false := by rfl
@[go_sem] theorem own_27 : C.own 27 = false := by rfl
@[go_sem] theorem own_28 : C.own 28 = false := by rfl
@[go_sem] theorem own_29 : C.own 29 = false := by rfl
@[go_sem] theorem own_30 : C.own 30 = false := by rfl
@[go_sem] theorem own_31 : C.own 31 = false := by rfl
@[go_sem] theorem own_32 : C.own 32 = false := by rfl
@[go_sem] theorem own_33 : C.own 33 = false := by rfl
@[go_sem] theorem own_34 : C.own 34 = false := by rfl
@[go_sem] theorem own_35 : C.own 35 = false := by rfl
@[go_sem] theorem own_36 : C.own 36 = false := by rfl
@[go_sem] theorem own_37 : C.own 37 = false := by rfl
@[go_sem] theorem own_38 : C.own 38 = false := by rfl
@[go_sem] theorem own_39 : C.own 39 = false := by rfl
@[go_sem] theorem own_40 : C.own 40 = false := by rfl
@[go_sem] theorem own_41 : C.own 41 = false := by rfl
@[go_sem] theorem own_42 : C.own 42 = false := by rfl
@[go_sem] theorem own_43 : C.own 43 = false := by rfl
@[go_sem] theorem own_44 : C.own 44 = false := by rfl
@[go_sem] theorem own_45 : C.own 45 = false := by rfl
@[go_sem] theorem own_46 : C.own 46 = false := by rfl
@[go_sem] theorem own_47 : C.own 47 = false := by rfl
@[go_sem] theorem own_48 : C.own 48 = false := by rfl
@[go_sem] theorem own_49 : C.own 49 = false := by rfl
@[go_sem] theorem own_50 : C.own 50 = false := by rfl
@[go_sem] theorem own_51 : C.own 51 = false := by rfl
@[go_sem] theorem own_52 : C.own 52 = true := by rfl
@[go_sem] theorem own_53 : C.own 53 = false := by rfl
@[go_sem] theorem own_54 : C.own 54 = false := by rfl
@[go_sem] theorem own_55 : C.own 55 = false := by rfl
@[go_sem] theorem own_56 : C.own 56 = false := by rfl
@[go_sem] theorem own_57 : C.own 57 = false := by rfl
@[go_sem] theorem own_58 : C.own 58 = false := by rfl
@[go_sem] theorem own_59 : C.own 59 = false := by rfl
@[go_sem] theorem own_60 : C.own 60 = false := by rfl
@[go_sem] theorem own_61 : C.own 61 = false := by rfl
@[go_sem] theorem own_62 : C.own 62 = false := by rfl
@[go_sem] theorem own_63 : C.own 63 = false := by rfl
@[go_sem] theorem own_64 : C.own 64 = false := by rfl
@[go_sem] theorem own_65 : C.own 65 = false := by rfl
@[go_sem] theorem own_66 : C.own 66 = false := by rfl
@[go_sem] theorem own_67 : C.own 67 = false := by rfl
@[go_sem] theorem own_68 : C.own 68 = false := by rfl
@[go_sem] theorem own_69 : C.own 69 = false := by rfl
@[go_sem] theorem own_70 : C.own 70 = false := by rfl
@[go_sem] theorem own_71 : C.own 71 = false := by rfl
@[go_sem] theorem own_72 : C.own 72 = false := by rfl
@[go_sem] theorem own_73 : C.own 73 = false := by rfl
@[go_sem] theorem own_74 : C.own 74 = false := by rfl
@[go_sem] theorem own_75 : C.own 75 = false := by rfl
@[go_sem] theorem own_76 : C.own 76 = false := by rfl
@[go_sem] theorem own_77 : C.own 77 = false := by rfl
@[go_sem] theorem own_78 : C.own 78 = true := by rfl
@[go_sem] theorem own_79 : C.own 79 = false := by rfl
@[go_sem] theorem own_80 : C.own 80 = false := by rfl
@[go_sem] theorem own_81 : C.own 81 = false := by rfl
@[go_sem] theorem own_82 : C.own 82 = false := by rfl
@[go_sem] theorem own_83 : C.own 83 = false := by rfl
@[go_sem] theorem own_84 : C.own 84 = false := by rfl
@[go_sem] theorem own_85 : C.own 85 = false := by rfl
@[go_sem] theorem own_86 : C.own 86 = false := by rfl
@[go_sem] theorem own_87 : C.own 87 = false := by rfl
@[go_sem] theorem own_88 : C.own 88 = false := by rfl
@[go_sem] theorem own_89 : C.own 89 = false := by rfl
@[go_sem] theorem own_90 : C.own 90 = false := by rfl
@[go_sem] theorem own_91 : C.own 91 = false := by rfl
@[go_sem] theorem own_92 : C.own 92 = false := by rfl
@[go_sem] theorem own_93 : C.own 93 = false := by rfl
@[go_sem] theorem own_94 : C.own 94 = false := by rfl
@[go_sem] theorem own_95 : C.own 95 = false := by rfl
@[go_sem] theorem own_96 : C.own 96 = false := by rfl
@[go_sem] theorem own_97 : C.own 97 = false := by rfl
@[go_sem] theorem own_98 : C.own 98 = false := by rfl
@[go_sem] theorem own_99 : C.own 99 = false := by rfl
@[go_sem] theorem own_100 : C.own 100 = false := by rfl
@[go_sem] theorem own_101 : C.own 101 = false := by rfl
@[go_sem] theorem own_102 : C.own 102 = false := by rfl
@[go_sem] theorem own_103 : C.own 103 = false := by rfl
@[go_sem] theorem own_104 : C.own 104 = false := by rfl
@[go_sem] theorem own_105 : C.own 105 = false := by rfl
@[go_sem] theorem own_106 : C.own 106 = false := by rfl
theorem allOk : okL.all (fnOk Try.prog) = true := by kernel_rfl
theorem okOf : ∀ f, okL.contains f = true → fnOk Try.prog f = true := fun f h => List.all_eq_true.1 allOk f (by simpa using h)
theorem ok (f : FuncId) (h : okL.contains f = true) : fnOk C.P f = true := okOf f h
@[go_sem] theorem esc_3 : C.esc 3 = [] := by kernel_rfl
@[go_sem] theorem live_3_0 : C.live 3 0 = some [0, 1] := by kernel_rfl
@[go_sem] theorem live_3_1 : C.live 3 1 = some [1, 2] := by kernel_rfl
@[go_sem] theorem live_3_2 : C.live 3 2 = some [] := by kernel_rfl
@[go_sem] theorem live_3_3 : C.live 3 3 = some [2, 1] := by kernel_rfl
@[go_sem] theorem live_3_4 : C.live 3 4 = some [2, 1, 5, 6] := by kernel_rfl
@[go_sem] theorem live_3_5 : C.live 3 5 = some [5, 7, 6, 8] := by kernel_rfl
@[go_sem] theorem esc_4 : C.esc 4 = [] := by kernel_rfl
@[go_sem] theorem live_4_0 : C.live 4 0 = some [0] := by kernel_rfl
@[go_sem] theorem live_4_1 : C.live 4 1 = some [1] := by kernel_rfl
@[go_sem] theorem live_4_2 : C.live 4 2 = some [] := by kernel_rfl
@[go_sem] theorem live_4_3 : C.live 4 3 = some [1] := by kernel_rfl
@[go_sem] theorem esc_5 : C.esc 5 = [] := by kernel_rfl
@[go_sem] theorem live_5_0 : C.live 5 0 = some [0] := by kernel_rfl
@[go_sem] theorem live_5_1 : C.live 5 1 = some [1] := by kernel_rfl
@[go_sem] theorem live_5_2 : C.live 5 2 = some [] := by kernel_rfl
@[go_sem] theorem live_5_3 : C.live 5 3 = some [1] := by kernel_rfl
@[go_sem] theorem esc_6 : C.esc 6 = [] := by kernel_rfl
@[go_sem] theorem live_6_0 : C.live 6 0 = some [0, 1] := by kernel_rfl
@[go_sem] theorem live_6_1 : C.live 6 1 = some [2, 1] := by kernel_rfl
@[go_sem] theorem live_6_2 : C.live 6 2 = some [] := by kernel_rfl
@[go_sem] theorem live_6_3 : C.live 6 3 = some [1, 2] := by kernel_rfl
@[go_sem] theorem live_6_4 : C.live 6 4 = some [2, 1, 5] := by kernel_rfl
@[go_sem] theorem live_6_6 : C.live 6 6 = some [2, 1, 5] := by kernel_rfl
@[go_sem] theorem live_6_7 : C.live 6 7 = some [] := by kernel_rfl
@[go_sem] theorem live_6_5 : C.live 6 5 = some [5, 1, 2] := by kernel_rfl
@[go_sem] theorem live_6_8 : C.live 6 8 = some [2, 1] := by kernel_rfl
@[go_sem] theorem esc_7 : C.esc 7 = [] := by kernel_rfl
@[go_sem] theorem live_7_0 : C.live 7 0 = some [0] := by kernel_rfl
@[go_sem] theorem live_7_1 : C.live 7 1 = some [1] := by kernel_rfl
@[go_sem] theorem live_7_2 : C.live 7 2 = some [] := by kernel_rfl
@[go_sem] theorem live_7_3 : C.live 7 3 = some [1] := by kernel_rfl
@[go_sem] theorem live_7_4 : C.live 7 4 = some [1, 3] := by kernel_rfl
@[go_sem] theorem live_7_5 : C.live 7 5 = some [3, 4, 1] := by kernel_rfl
@[go_sem] theorem live_7_7 : C.live 7 7 = some [3, 4, 1] := by kernel_rfl
@[go_sem] theorem live_7_6 : C.live 7 6 = some [4, 1, 3] := by kernel_rfl
@[go_sem] theorem live_7_8 : C.live 7 8 = some [1, 3] := by kernel_rfl
@[go_sem] theorem live_7_9 : C.live 7 9 = some [5, 1, 3] := by kernel_rfl
@[go_sem] theorem live_7_10 : C.live 7 10 = some [3, 1, 5, 6] := by kernel_rfl
@[go_sem] theorem live_7_12 : C.live 7 12 = some [3, 1, 5, 6] := by kernel_rfl
@[go_sem] theorem live_7_13 : C.live 7 13 = some [] := by kernel_rfl
@[go_sem] theorem live_7_11 : C.live 7 11 = some [6, 5, 1, 3] := by kernel_rfl
@[go_sem] theorem live_7_14 : C.live 7 14 = some [1, 3] := by kernel_rfl
@[go_sem] theorem esc_8 : C.esc 8 = [] := by kernel_rfl
@[go_sem] theorem live_8_0 : C.live 8 0 = some [0, 1, 2] := by kernel_rfl
@[go_sem] theorem live_8_1 : C.live 8 1 = some [3, 1, 2] := by kernel_rfl
@[go_sem] theorem live_8_2 : C.live 8 2 = some [] := by kernel_rfl
@[go_sem] theorem live_8_3 : C.live 8 3 = some [2, 1, 3] := by kernel_rfl
@[go_sem] theorem live_8_4 : C.live 8 4 = some [8, 2, 1, 3, 7] := by kernel_rfl
@[go_sem] theorem live_8_5 : C.live 8 5 = some [] := by kernel_rfl
@[go_sem] theorem live_8_6 : C.live 8 6 = some [7, 3, 1, 2] := by kernel_rfl
@[go_sem] theorem live_8_7 : C.live 8 7 = some [7, 3, 1, 2, 10, 9] := by kernel_rfl
@[go_sem] theorem live_8_8 : C.live 8 8 = some [] := by kernel_rfl
@[go_sem] theorem live_8_9 : C.live 8 9 = some [9, 10, 2, 1] := by kernel_rfl
@[go_sem] theorem live_8_10 : C.live 8 10 = some [1, 2, 10, 9, 11] := by kernel_rfl
@[go_sem] theorem live_8_12 : C.live 8 12 = some [1, 2, 10, 9, 11] := by kernel_rfl
@[go_sem] theorem live_8_13 : C.live 8 13 = some [12, 1, 2, 10, 9, 11] := by kernel_rfl
@[go_sem] theorem live_8_14 : C.live 8 14 = some [1, 2, 10, 9, 11] := by kernel_rfl
@[go_sem] theorem live_8_15 : C.live 8 15 = some [12, 1, 2, 10, 9, 11] := by kernel_rfl
@[go_sem] theorem live_8_16 : C.live 8 16 = some [] := by kernel_rfl
@[go_sem] theorem live_8_11 : C.live 8 11 = some [11, 9, 10, 2, 1] := by kernel_rfl
@[go_sem] theorem live_8_17 : C.live 8 17 = some [] := by kernel_rfl
@[go_sem] theorem esc_9 : C.esc 9 = [] := by kernel_rfl
@[go_sem] theorem live_9_0 : C.live 9 0 = some [0, 2, 1] := by kernel_rfl
@[go_sem] theorem live_9_1 : C.live 9 1 = some [2, 3, 1] := by kernel_rfl
@[go_sem] theorem live_9_2 : C.live 9 2 = some [] := by kernel_rfl
@[go_sem] theorem live_9_3 : C.live 9 3 = some [1, 3, 2] := by kernel_rfl
@[go_sem] theorem live_9_4 : C.live 9 4 = some [8, 1, 3, 2, 7] := by kernel_rfl
@[go_sem] theorem live_9_5 : C.live 9 5 = some [7] := by kernel_rfl
@[go_sem] theorem live_9_6 : C.live 9 6 = some [2, 7, 3, 1] := by kernel_rfl
@[go_sem] theorem live_9_7 : C.live 9 7 = some [9, 2, 7, 3, 1] := by kernel_rfl
@[go_sem] theorem live_9_8 : C.live 9 8 = some [9, 2, 7, 3, 1] := by kernel_rfl
@[go_sem] theorem live_9_9 : C.live 9 9 = some [7, 3, 1, 9] := by kernel_rfl
@[go_sem] theorem live_9_10 : C.live 9 10 = some [10, 11, 7, 3, 1, 9] := by kernel_rfl
@[go_sem] theorem live_9_11 : C.live 9 11 = some [] := by kernel_rfl
@[go_sem] theorem live_9_12 : C.live 9 12 = some [9, 1, 3, 7] := by kernel_rfl
@[go_sem] theorem live_9_13 : C.live 9 13 = some [3, 9, 7] := by kernel_rfl
@[go_sem] theorem live_9_14 : C.live 9 14 = some [7, 10, 11] := by kernel_rfl
@[go_sem] theorem esc_10 : C.esc 10 = [] := by kernel_rfl
@[go_sem] theorem live_10_0 : C.live 10 0 = some [0] := by kernel_rfl
@[go_sem] theorem live_10_1 : C.live 10 1 = some [1] := by kernel_rfl
@[go_sem] theorem live_10_2 : C.live 10 2 = some [] := by kernel_rfl
@[go_sem] theorem live_10_3 : C.live 10 3 = some [1] := by kernel_rfl
@[go_sem] theorem live_10_4 : C.live 10 4 = some [1, 3] := by kernel_rfl
@[go_sem] theorem live_10_5 : C.live 10 5 = some [3, 4] := by kernel_rfl
@[go_sem] theorem live_10_6 : C.live 10 6 = some [4, 3, 5] := by kernel_rfl
@[go_sem] theorem live_10_8 : C.live 10 8 = some [4, 3, 5] := by kernel_rfl
@[go_sem] theorem live_10_9 : C.live 10 9 = some [6, 4, 3, 5] := by kernel_rfl
@[go_sem] theorem live_10_10 : C.live 10 10 = some [7, 6, 4, 3, 5] := by kernel_rfl
@[go_sem] theorem live_10_11 : C.live 10 11 = some [7, 35, 6, 4, 3, 5] := by kernel_rfl
@[go_sem] theorem live_10_12 : C.live 10 12 = some [7, 35, 6, 4, 3, 5] := by kernel_rfl
@[go_sem] theorem live_10_15 : C.live 10 15 = some [35, 7, 6, 4, 3, 5] := by kernel_rfl
@[go_sem] theorem live_10_17 : C.live 10 17 = some [7, 35, 6, 4, 3, 5] := by kernel_rfl
@[go_sem] theorem live_10_19 : C.live 10 19 = some [35, 7, 6, 4, 3, 5] := by kernel_rfl
@[go_sem] theorem live_10_21 : C.live 10 21 = some [7, 35, 6, 4, 3, 5] := by kernel_rfl
@[go_sem] theorem live_10_23 : C.live 10 23 = some [35, 7, 6, 4, 3, 5] := by kernel_rfl
@[go_sem] theorem live_10_24 : C.live 10 24 = some [6, 4, 3, 5] := by kernel_rfl
@[go_sem] theorem live_10_22 : C.live 10 22 = some [6, 4, 3, 5] := by kernel_rfl
@[go_sem] theorem live_10_20 : C.live 10 20 = some [6, 4, 3, 5] := by kernel_rfl
@[go_sem] theorem live_10_18 : C.live 10 18 = some [6, 4, 3, 5] := by kernel_rfl
@[go_sem] theorem live_10_16 : C.live 10 16 = some [6, 4, 3, 5] := by kernel_rfl
@[go_sem] theorem live_10_13 : C.live 10 13 = some [6, 4, 3, 5] := by kernel_rfl
@[go_sem] theorem live_10_14 : C.live 10 14 = some [9, 6, 8, 4, 3, 5] := by kernel_rfl
@[go_sem] theorem live_10_25 : C.live 10 25 = some [7, 4, 3, 5] := by kernel_rfl
@[go_sem] theorem live_10_26 : C.live 10 26 = some [] := by kernel_rfl
@[go_sem] theorem live_10_7 : C.live 10 7 = some [5, 3, 4] := by kernel_rfl
@[go_sem] theorem live_10_27 : C.live 10 27 = some [] := by kernel_rfl
@[go_sem] theorem esc_11 : C.esc 11 = [] := by kernel_rfl
@[go_sem] theorem live_11_0 : C.live 11 0 = some [0, 1] := by kernel_rfl
@[go_sem] theorem live_11_1 : C.live 11 1 = some [2, 1] := by kernel_rfl
@[go_sem] theorem esc_12 : C.esc 12 = [] := by kernel_rfl
@[go_sem] theorem live_12_0 : C.live 12 0 = some [0] := by kernel_rfl
@[go_sem] theorem live_12_1 : C.live 12 1 = some [0] := by kernel_rfl
@[go_sem] theorem live_12_2 : C.live 12 2 = some [] := by kernel_rfl
@[go_sem] theorem live_12_3 : C.live 12 3 = some [0] := by kernel_rfl
@[go_sem] theorem live_12_4 : C.live 12 4 = some [0, 3] := by kernel_rfl
@[go_sem] theorem live_12_6 : C.live 12 6 = some [0, 3] := by kernel_rfl
@[go_sem] theorem live_12_7 : C.live 12 7 = some [] := by kernel_rfl
@[go_sem] theorem live_12_5 : C.live 12 5 = some [3, 0] := by kernel_rfl
@[go_sem] theorem live_12_8 : C.live 12 8 = some [] := by kernel_rfl
@[go_sem] theorem esc_13 : C.esc 13 = [] := by kernel_rfl
@[go_sem] theorem live_13_0 : C.live 13 0 = some [] := by kernel_rfl
@[go_sem] theorem live_13_1 : C.live 13 1 = some [] := by kernel_rfl
@[go_sem] theorem live_13_2 : C.live 13 2 = some [2, 1] := by kernel_rfl
@[go_sem] theorem live_13_3 : C.live 13 3 = some [4, 2, 1] := by kernel_rfl
@[go_sem] theorem live_13_4 : C.live 13 4 = some [6, 4, 2, 1] := by kernel_rfl
@[go_sem] theorem live_13_5 : C.live 13 5 = some [7, 6, 4, 2, 1] := by kernel_rfl
@[go_sem] theorem live_13_6 : C.live 13 6 = some [7, 8, 6, 4, 2, 1] := by kernel_rfl
@[go_sem] theorem live_13_7 : C.live 13 7 = some [7, 9, 8, 6, 4, 2, 1] := by kernel_rfl
@[go_sem] theorem live_13_8 : C.live 13 8 = some [10, 9, 8, 6, 4, 2, 1] := by kernel_rfl
@[go_sem] theorem live_13_9 : C.live 13 9 = some [11, 10, 9, 8, 6, 4, 2, 1] := by kernel_rfl
@[go_sem] theorem live_13_10 : C.live 13 10 = some [] := by kernel_rfl
@[go_sem] theorem live_13_11 : C.live 13 11 = some [1, 2, 4, 6, 8, 9, 10] := by kernel_rfl
@[go_sem] theorem esc_14 : C.esc 14 = [] := by kernel_rfl
@[go_sem] theorem live_14_0 : C.live 14 0 = some [0, 1] := by kernel_rfl
@[go_sem] theorem live_14_1 : C.live 14 1 = some [2, 1] := by kernel_rfl
@[go_sem] theorem live_14_2 : C.live 14 2 = some [2, 1, 6] := by kernel_rfl
@[go_sem] theorem live_14_3 : C.live 14 3 = some [6] := by kernel_rfl
@[go_sem] theorem live_14_4 : C.live 14 4 = some [1, 2] := by kernel_rfl
@[go_sem] theorem live_14_5 : C.live 14 5 = some [1, 7, 2] := by kernel_rfl
@[go_sem] theorem live_14_6 : C.live 14 6 = some [20, 7, 18, 2, 19] := by kernel_rfl
@[go_sem] theorem live_14_7 : C.live 14 7 = some [20, 7, 18, 2, 19] := by kernel_rfl
@[go_sem] theorem live_14_8 : C.live 14 8 = some [9, 20, 7, 18, 2, 19] := by kernel_rfl
@[go_sem] theorem live_14_9 : C.live 14 9 = some [11, 9, 20, 7, 18, 2, 19] := by kernel_rfl
@[go_sem] theorem live_14_10 : C.live 14 10 = some [9, 20, 7, 18, 2, 19] := by kernel_rfl
@[go_sem] theorem live_14_11 : C.live 14 11 = some [20, 7, 18, 2, 19] := by kernel_rfl
@[go_sem] theorem live_14_12 : C.live 14 12 = some [2, 7] := by kernel_rfl
@[go_sem] theorem esc_15 : C.esc 15 = [] := by kernel_rfl
@[go_sem] theorem live_15_0 : C.live 15 0 = some [0, 1] := by kernel_rfl
@[go_sem] theorem live_15_1 : C.live 15 1 = some [1, 2] := by kernel_rfl
@[go_sem] theorem live_15_2 : C.live 15 2 = some [1, 2, 6] := by kernel_rfl
@[go_sem] theorem live_15_3 : C.live 15 3 = some [6] := by kernel_rfl
@[go_sem] theorem live_15_4 : C.live 15 4 = some [2, 1] := by kernel_rfl
@[go_sem] theorem esc_16 : C.esc 16 = [] := by kernel_rfl
@[go_sem] theorem live_16_0 : C.live 16 0 = some [0, 1] := by kernel_rfl
@[go_sem] theorem live_16_1 : C.live 16 1 = some [1, 2] := by kernel_rfl
@[go_sem] theorem live_16_2 : C.live 16 2 = some [] := by kernel_rfl
@[go_sem] theorem live_16_3 : C.live 16 3 = some [2, 1] := by kernel_rfl
@[go_sem] theorem live_16_4 : C.live 16 4 = some [1, 2, 5] := by kernel_rfl
@[go_sem] theorem live_16_6 : C.live 16 6 = some [1, 2, 5] := by kernel_rfl
@[go_sem] theorem live_16_7 : C.live 16 7 = some [] := by kernel_rfl
@[go_sem] theorem live_16_5 : C.live 16 5 = some [5, 2, 1] := by kernel_rfl
@[go_sem] theorem live_16_8 : C.live 16 8 = some [2, 1] := by kernel_rfl
@[go_sem] theorem esc_17 : C.esc 17 = [] := by kernel_rfl
@[go_sem] theorem live_17_0 : C.live 17 0 = some [0] := by kernel_rfl
@[go_sem] theorem live_17_1 : C.live 17 1 = some [1] := by kernel_rfl
@[go_sem] theorem live_17_2 : C.live 17 2 = some [4] := by kernel_rfl
@[go_sem] theorem esc_18 : C.esc 18 = [] := by kernel_rfl
@[go_sem] theorem live_18_0 : C.live 18 0 = some [0] := by kernel_rfl
@[go_sem] theorem live_18_1 : C.live 18 1 = some [1] := by kernel_rfl
@[go_sem] theorem live_18_2 : C.live 18 2 = some [1, 3] := by kernel_rfl
@[go_sem] theorem live_18_3 : C.live 18 3 = some [3] := by kernel_rfl
@[go_sem] theorem live_18_4 : C.live 18 4 = some [1] := by kernel_rfl
@[go_sem] theorem live_18_5 : C.live 18 5 = some [1, 4] := by kernel_rfl
@[go_sem] theorem live_18_6 : C.live 18 6 = some [4, 1, 5] := by kernel_rfl
@[go_sem] theorem live_18_8 : C.live 18 8 = some [4, 1, 5] := by kernel_rfl
@[go_sem] theorem live_18_9 : C.live 18 9 = some [] := by kernel_rfl
@[go_sem] theorem live_18_10 : C.live 18 10 = some [5, 1, 4] := by kernel_rfl
@[go_sem] theorem live_18_7 : C.live 18 7 = some [5, 1, 4] := by kernel_rfl
@[go_sem] theorem live_18_11 : C.live 18 11 = some [4, 1] := by kernel_rfl
@[go_sem] theorem live_18_12 : C.live 18 12 = some [6, 4, 1] := by kernel_rfl
@[go_sem] theorem live_18_13 : C.live 18 13 = some [7, 6, 4, 1] := by kernel_rfl
@[go_sem] theorem live_18_15 : C.live 18 15 = some [7, 6, 4, 1] := by kernel_rfl
@[go_sem] theorem live_18_16 : C.live 18 16 = some [1, 4, 6, 7, 8] := by kernel_rfl
@[go_sem] theorem live_18_18 : C.live 18 18 = some [1, 4, 6, 7, 8] := by kernel_rfl
@[go_sem] theorem live_18_19 : C.live 18 19 = some [] := by kernel_rfl
@[go_sem] theorem live_18_17 : C.live 18 17 = some [8, 7, 6, 4, 1] := by kernel_rfl
@[go_sem] theorem live_18_14 : C.live 18 14 = some [7, 6, 4, 1] := by kernel_rfl
@[go_sem] theorem live_18_20 : C.live 18 20 = some [4, 1] := by kernel_rfl
@[go_sem] theorem esc_19 : C.esc 19 = [] := by kernel_rfl
@[go_sem] theorem live_19_0 : C.live 19 0 = some [0, 1] := by kernel_rfl
@[go_sem] theorem live_19_1 : C.live 19 1 = some [0, 1] := by kernel_rfl
@[go_sem] theorem live_19_2 : C.live 19 2 = some [] := by kernel_rfl
@[go_sem] theorem live_19_3 : C.live 19 3 = some [1, 0] := by kernel_rfl
@[go_sem] theorem live_19_4 : C.live 19 4 = some [0, 1, 5] := by kernel_rfl
@[go_sem] theorem live_19_6 : C.live 19 6 = some [0, 1, 5] := by kernel_rfl
@[go_sem] theorem live_19_7 : C.live 19 7 = some [] := by kernel_rfl
@[go_sem] theorem live_19_5 : C.live 19 5 = some [5, 1, 0] := by kernel_rfl
@[go_sem] theorem live_19_8 : C.live 19 8 = some [] := by kernel_rfl
@[go_sem] theorem esc_20 : C.esc 20 = [] := by kernel_rfl
@[go_sem] theorem live_20_0 : C.live 20 0 = some [0] := by kernel_rfl
@[go_sem] theorem live_20_1 : C.live 20 1 = some [1] := by kernel_rfl
@[go_sem] theorem live_20_2 : C.live 20 2 = some [4, 3, 1] := by kernel_rfl
@[go_sem] theorem live_20_3 : C.live 20 3 = some [] := by kernel_rfl
@[go_sem] theorem live_20_4 : C.live 20 4 = some [1, 3] := by kernel_rfl
@[go_sem] theorem live_20_5 : C.live 20 5 = some [1, 3, 5] := by kernel_rfl
@[go_sem] theorem live_20_6 : C.live 20 6 = some [5, 18, 3, 16, 17] := by kernel_rfl
@[go_sem] theorem live_20_7 : C.live 20 7 = some [5, 18, 3, 16, 17] := by kernel_rfl
@[go_sem] theorem live_20_8 : C.live 20 8 = some [5, 7, 18, 3, 16, 17] := by kernel_rfl
@[go_sem] theorem live_20_9 : C.live 20 9 = some [18, 3, 5, 16, 17] := by kernel_rfl
@[go_sem] theorem live_20_10 : C.live 20 10 = some [5] := by kernel_rfl
@[go_sem] theorem esc_21 : C.esc 21 = [] := by kernel_rfl
@[go_sem] theorem live_21_0 : C.live 21 0 = some [0] := by kernel_rfl
@[go_sem] theorem live_21_1 : C.live 21 1 = some [1] := by kernel_rfl
@[go_sem] theorem live_21_2 : C.live 21 2 = some [] := by kernel_rfl
@[go_sem] theorem live_21_3 : C.live 21 3 = some [1] := by kernel_rfl
@[go_sem] theorem live_21_4 : C.live 21 4 = some [3, 1] := by kernel_rfl
@[go_sem] theorem live_21_5 : C.live 21 5 = some [1, 3] := by kernel_rfl
@[go_sem] theorem live_21_6 : C.live 21 6 = some [4, 3] := by kernel_rfl
@[go_sem] theorem live_21_7 : C.live 21 7 = some [5, 4, 3] := by kernel_rfl
@[go_sem] theorem live_21_9 : C.live 21 9 = some [5, 4, 3] := by kernel_rfl
@[go_sem] theorem live_21_10 : C.live 21 10 = some [3, 5, 4] := by kernel_rfl
@[go_sem] theorem live_21_11 : C.live 21 11 = some [3, 6, 5, 4] := by kernel_rfl
@[go_sem] theorem live_21_12 : C.live 21 12 = some [3, 6, 5, 4] := by kernel_rfl
@[go_sem] theorem live_21_13 : C.live 21 13 = some [3, 7, 6, 5, 4] := by kernel_rfl
@[go_sem] theorem live_21_14 : C.live 21 14 = some [3, 6, 5, 4] := by kernel_rfl
@[go_sem] theorem live_21_15 : C.live 21 15 = some [3, 6, 5, 4] := by kernel_rfl
@[go_sem] theorem live_21_8 : C.live 21 8 = some [5, 4, 3] := by kernel_rfl
@[go_sem] theorem live_21_16 : C.live 21 16 = some [3] := by kernel_rfl
@[go_sem] theorem esc_22 : C.esc 22 = [] := by kernel_rfl
@[go_sem] theorem live_22_0 : C.live 22 0 = some [0, 1] := by kernel_rfl
@[go_sem] theorem live_22_1 : C.live 22 1 = some [2, 1] := by kernel_rfl
@[go_sem] theorem live_22_2 : C.live 22 2 = some [] := by kernel_rfl
@[go_sem] theorem live_22_3 : C.live 22 3 = some [1, 2] := by kernel_rfl
@[go_sem] theorem live_22_4 : C.live 22 4 = some [21, 20, 2, 22] := by kernel_rfl
@[go_sem] theorem live_22_5 : C.live 22 5 = some [21, 20, 2, 22] := by kernel_rfl
@[go_sem] theorem live_22_6 : C.live 22 6 = some [6, 5, 21, 20, 2, 22] := by kernel_rfl
@[go_sem] theorem live_22_7 : C.live 22 7 = some [6, 5, 7, 21, 20, 2, 22] := by kernel_rfl
@[go_sem] theorem live_22_8 : C.live 22 8 = some [7, 8, 21, 20, 2, 22] := by kernel_rfl
@[go_sem] theorem live_22_9 : C.live 22 9 = some [] := by kernel_rfl
@[go_sem] theorem live_22_10 : C.live 22 10 = some [22, 2, 20, 21] := by kernel_rfl
@[go_sem] theorem live_22_11 : C.live 22 11 = some [] := by kernel_rfl
@[go_sem] theorem esc_23 : C.esc 23 = [] := by kernel_rfl
@[go_sem] theorem live_23_0 : C.live 23 0 = some [0, 1] := by kernel_rfl
@[go_sem] theorem live_23_1 : C.live 23 1 = some [1, 2] := by kernel_rfl
@[go_sem] theorem live_23_2 : C.live 23 2 = some [] := by kernel_rfl
@[go_sem] theorem live_23_3 : C.live 23 3 = some [2, 1] := by kernel_rfl
@[go_sem] theorem live_23_4 : C.live 23 4 = some [1, 2, 5] := by kernel_rfl
@[go_sem] theorem live_23_6 : C.live 23 6 = some [1, 2, 5] := by kernel_rfl
@[go_sem] theorem live_23_7 : C.live 23 7 = some [] := by kernel_rfl
@[go_sem] theorem live_23_5 : C.live 23 5 = some [5, 2, 1] := by kernel_rfl
@[go_sem] theorem live_23_8 : C.live 23 8 = some [] := by kernel_rfl
@[go_sem] theorem esc_24 : C.esc 24 = [] := by kernel_rfl
@[go_sem] theorem live_24_0 : C.live 24 0 = some [0] := by kernel_rfl
@[go_sem] theorem live_24_1 : C.live 24 1 = some [1] := by kernel_rfl
@[go_sem] theorem live_24_2 : C.live 24 2 = some [1, 3] := by kernel_rfl
@[go_sem] theorem live_24_3 : C.live 24 3 = some [3, 4, 1] := by kernel_rfl
@[go_sem] theorem live_24_5 : C.live 24 5 = some [3, 4, 1] := by kernel_rfl
@[go_sem] theorem live_24_4 : C.live 24 4 = some [4, 1, 3] := by kernel_rfl
@[go_sem] theorem live_24_6 : C.live 24 6 = some [1, 3] := by kernel_rfl
@[go_sem] theorem live_24_7 : C.live 24 7 = some [5, 3] := by kernel_rfl
@[go_sem] theorem live_24_8 : C.live 24 8 = some [3, 6, 5] := by kernel_rfl
@[go_sem] theorem live_24_10 : C.live 24 10 = some [3, 6, 5] := by kernel_rfl
@[go_sem] theorem live_24_11 : C.live 24 11 = some [3, 6, 5] := by kernel_rfl
@[go_sem] theorem live_24_9 : C.live 24 9 = some [6, 5, 3] := by kernel_rfl
@[go_sem] theorem live_24_12 : C.live 24 12 = some [3] := by kernel_rfl
@[go_sem] theorem esc_25 : C.esc 25 = [] := by kernel_rfl
@[go_sem] theorem live_25_0 : C.live 25 0 = some [1, 0] := by kernel_rfl
@[go_sem] theorem live_25_1 : C.live 25 1 = some [1, 0] := by kernel_rfl
@[go_sem] theorem live_25_2 : C.live 25 2 = some [0, 1, 5] := by kernel_rfl
@[go_sem] theorem live_25_4 : C.live 25 4 = some [0, 1, 5] := by kernel_rfl
@[go_sem] theorem live_25_5 : C.live 25 5 = some [] := by kernel_rfl
@[go_sem] theorem live_25_3 : C.live 25 3 = some [5, 1, 0] := by kernel_rfl
@[go_sem] theorem live_25_6 : C.live 25 6 = some [] := by kernel_rfl
@[go_sem] theorem esc_26 : C.esc 26 = [] := by kernel_rfl
@[go_sem] theorem live_26_0 : C.live 26 0 = some [2, 1, 0] := by kernel_rfl
@[go_sem] theorem live_26_1 : C.live 26 1 = some [2, 1, 0] := by kernel_rfl
@[go_sem] theorem live_26_2 : C.live 26 2 = some [1, 7, 2, 0] := by kernel_rfl
@[go_sem] theorem live_26_4 : C.live 26 4 = some [1, 7, 2, 0] := by kernel_rfl
@[go_sem] theorem live_26_5 : C.live 26 5 = some [1, 8, 7, 2, 0] := by kernel_rfl
@[go_sem] theorem live_26_6 : C.live 26 6 = some [] := by kernel_rfl
@[go_sem] theorem live_26_7 : C.live 26 7 = some [0, 2, 7, 8, 1] := by kernel_rfl
@[go_sem] theorem live_26_8 : C.live 26 8 = some [10, 9, 0, 2, 7, 8, 1] := by kernel_rfl
@[go_sem] theorem live_26_9 : C.live 26 9 = some [0, 2, 7, 8, 1] := by kernel_rfl
@[go_sem] theorem live_26_10 : C.live 26 10 = some [9, 10, 0, 2, 7, 8, 1] := by kernel_rfl
@[go_sem] theorem live_26_11 : C.live 26 11 = some [] := by kernel_rfl
@[go_sem] theorem live_26_12 : C.live 26 12 = some [1, 8, 7, 2, 0] := by kernel_rfl
@[go_sem] theorem live_26_13 : C.live 26 13 = some [1, 8, 7, 2, 0] := by kernel_rfl
@[go_sem] theorem live_26_3 : C.live 26 3 = some [7, 2, 1, 0] := by kernel_rfl
@[go_sem] theorem live_26_14 : C.live 26 14 = some [] := by kernel_rfl
@[go_sem] theorem esc_27 : C.esc 27 = [] := by kernel_rfl
@[go_sem] theorem live_27_0 : C.live 27 0 = some [0, 1, 2] := by kernel_rfl
@[go_sem] theorem live_27_1 : C.live 27 1 = some [1, 3, 2, 6] := by kernel_rfl
@[go_sem] theorem live_27_2 : C.live 27 2 = some [6] := by kernel_rfl
@[go_sem] theorem live_27_3 : C.live 27 3 = some [2, 3, 1, 6] := by kernel_rfl
@[go_sem] theorem live_27_4 : C.live 27 4 = some [6] := by kernel_rfl
@[go_sem] theorem live_27_5 : C.live 27 5 = some [1, 3, 2, 6] := by kernel_rfl
@[go_sem] theorem live_27_6 : C.live 27 6 = some [1, 8, 3, 2, 6] := by kernel_rfl
@[go_sem] theorem live_27_7 : C.live 27 7 = some [1, 8, 9, 3, 2, 6] := by kernel_rfl
@[go_sem] theorem live_27_8 : C.live 27 8 = some [9, 10, 1, 8, 3, 2, 6] := by kernel_rfl
@[go_sem] theorem live_27_10 : C.live 27 10 = some [9, 10, 1, 8, 3, 2, 6] := by kernel_rfl
@[go_sem] theorem live_27_9 : C.live 27 9 = some [10, 1, 8, 9, 3, 2, 6] := by kernel_rfl
@[go_sem] theorem live_27_11 : C.live 27 11 = some [9, 3, 2, 1, 6] := by kernel_rfl
@[go_sem] theorem live_27_12 : C.live 27 12 = some [6] := by kernel_rfl
@[go_sem] theorem live_27_13 : C.live 27 13 = some [1, 2, 3, 6] := by kernel_rfl
@[go_sem] theorem live_27_14 : C.live 27 14 = some [6] := by kernel_rfl
@[go_sem] theorem live_27_15 : C.live 27 15 = some [3, 2, 1, 6] := by kernel_rfl
@[go_sem] theorem live_27_16 : C.live 27 16 = some [11, 3, 2, 1, 6] := by kernel_rfl
@[go_sem] theorem live_27_17 : C.live 27 17 = some [12, 11, 3, 2, 1, 6] := by kernel_rfl
@[go_sem] theorem live_27_19 : C.live 27 19 = some [12, 11, 3, 2, 1, 6] := by kernel_rfl
@[go_sem] theorem live_27_18 : C.live 27 18 = some [12, 11, 3, 2, 1, 6] := by kernel_rfl
@[go_sem] theorem live_27_20 : C.live 27 20 = some [11, 6] := by kernel_rfl
@[go_sem] theorem esc_28 : C.esc 28 = [] := by kernel_rfl
@[go_sem] theorem live_28_0 : C.live 28 0 = some [0] := by kernel_rfl
@[go_sem] theorem live_28_1 : C.live 28 1 = some [1] := by kernel_rfl
@[go_sem] theorem esc_29 : C.esc 29 = [] := by kernel_rfl
@[go_sem] theorem live_29_0 : C.live 29 0 = some [0] := by kernel_rfl
@[go_sem] theorem live_29_1 : C.live 29 1 = some [0, 2] := by kernel_rfl
@[go_sem] theorem esc_30 : C.esc 30 = [] := by kernel_rfl
@[go_sem] theorem live_30_0 : C.live 30 0 = some [0, 1, 2, 3] := by kernel_rfl
@[go_sem] theorem live_30_1 : C.live 30 1 = some [4, 1, 2, 3] := by kernel_rfl
@[go_sem] theorem live_30_2 : C.live 30 2 = some [10, 2, 9, 3] := by kernel_rfl
@[go_sem] theorem esc_31 : C.esc 31 = [] := by kernel_rfl
@[go_sem] theorem live_31_0 : C.live 31 0 = some [0, 1] := by kernel_rfl
@[go_sem] theorem live_31_1 : C.live 31 1 = some [1, 2] := by kernel_rfl
@[go_sem] theorem live_31_2 : C.live 31 2 = some [5, 1, 2] := by kernel_rfl
@[go_sem] theorem live_31_3 : C.live 31 3 = some [5, 6, 1, 2] := by kernel_rfl
@[go_sem] theorem live_31_5 : C.live 31 5 = some [5, 6, 1, 2] := by kernel_rfl
@[go_sem] theorem live_31_4 : C.live 31 4 = some [6, 5, 1, 2] := by kernel_rfl
@[go_sem] theorem live_31_6 : C.live 31 6 = some [5] := by kernel_rfl
@[go_sem] theorem esc_32 : C.esc 32 = [] := by kernel_rfl
@[go_sem] theorem live_32_0 : C.live 32 0 = some [] := by kernel_rfl
@[go_sem] theorem live_32_1 : C.live 32 1 = some [0] := by kernel_rfl
@[go_sem] theorem esc_33 : C.esc 33 = [] := by kernel_rfl
@[go_sem] theorem live_33_0 : C.live 33 0 = some [0] := by kernel_rfl
@[go_sem] theorem live_33_1 : C.live 33 1 = some [0, 2] := by kernel_rfl
@[go_sem] theorem esc_34 : C.esc 34 = [] := by kernel_rfl
@[go_sem] theorem live_34_0 : C.live 34 0 = some [0] := by kernel_rfl
@[go_sem] theorem live_34_1 : C.live 34 1 = some [1] := by kernel_rfl
@[go_sem] theorem esc_35 : C.esc 35 = [] := by kernel_rfl
@[go_sem] theorem live_35_0 : C.live 35 0 = some [0, 1] := by kernel_rfl
@[go_sem] theorem live_35_1 : C.live 35 1 = some [1, 2] := by kernel_rfl
@[go_sem] theorem live_35_2 : C.live 35 2 = some [1, 2] := by kernel_rfl
@[go_sem] theorem live_35_3 : C.live 35 3 = some [7, 6] := by kernel_rfl
@[go_sem] theorem live_35_5 : C.live 35 5 = some [6] := by kernel_rfl
@[go_sem] theorem live_35_6 : C.live 35 6 = some [] := by kernel_rfl
@[go_sem] theorem live_35_4 : C.live 35 4 = some [] := by kernel_rfl
@[go_sem] theorem live_35_7 : C.live 35 7 = some [6] := by kernel_rfl
@[go_sem] theorem live_35_8 : C.live 35 8 = some [1, 2] := by kernel_rfl
@[go_sem] theorem live_35_9 : C.live 35 9 = some [8, 1, 2] := by kernel_rfl
@[go_sem] theorem live_35_10 : C.live 35 10 = some [40, 2, 39, 1, 41, 8] := by kernel_rfl
@[go_sem] theorem live_35_11 : C.live 35 11 = some [40, 2, 39, 1, 41, 8] := by kernel_rfl
@[go_sem] theorem live_35_12 : C.live 35 12 = some [10, 40, 2, 39, 1, 41, 8] := by kernel_rfl
@[go_sem] theorem live_35_13 : C.live 35 13 = some [40, 2, 39, 1, 41, 11, 8, 12] := by kernel_rfl
@[go_sem] theorem live_35_14 : C.live 35 14 = some [12] := by kernel_rfl
@[go_sem] theorem live_35_15 : C.live 35 15 = some [8, 11, 41, 1, 39, 2, 40] := by kernel_rfl
@[go_sem] theorem live_35_16 : C.live 35 16 = some [41, 8, 1, 39, 2, 40] := by kernel_rfl
@[go_sem] theorem live_35_17 : C.live 35 17 = some [2, 8] := by kernel_rfl
@[go_sem] theorem live_35_18 : C.live 35 18 = some [2, 8] := by kernel_rfl
@[go_sem] theorem live_35_19 : C.live 35 19 = some [] := by kernel_rfl
@[go_sem] theorem live_35_20 : C.live 35 20 = some [] := by kernel_rfl
@[go_sem] theorem live_35_21 : C.live 35 21 = some [2, 8] := by kernel_rfl
@[go_sem] theorem live_35_22 : C.live 35 22 = some [8, 13, 14] := by kernel_rfl
@[go_sem] theorem live_35_23 : C.live 35 23 = some [90, 14, 89, 13, 91] := by kernel_rfl
@[go_sem] theorem live_35_24 : C.live 35 24 = some [90, 14, 89, 13, 91] := by kernel_rfl
@[go_sem] theorem live_35_25 : C.live 35 25 = some [16, 90, 14, 89, 13, 91] := by kernel_rfl
@[go_sem] theorem live_35_26 : C.live 35 26 = some [] := by kernel_rfl
@[go_sem] theorem live_35_27 : C.live 35 27 = some [91, 13, 89, 14, 90] := by kernel_rfl
@[go_sem] theorem live_35_28 : C.live 35 28 = some [14] := by kernel_rfl
@[go_sem] theorem esc_36 : C.esc 36 = [] := by kernel_rfl
@[go_sem] theorem live_36_0 : C.live 36 0 = some [0] := by kernel_rfl
@[go_sem] theorem live_36_1 : C.live 36 1 = some [1] := by kernel_rfl
@[go_sem] theorem esc_37 : C.esc 37 = [] := by kernel_rfl
@[go_sem] theorem live_37_0 : C.live 37 0 = some [0, 1] := by kernel_rfl
@[go_sem] theorem live_37_1 : C.live 37 1 = some [2, 1] := by kernel_rfl
@[go_sem] theorem live_37_2 : C.live 37 2 = some [6, 2, 1] := by kernel_rfl
@[go_sem] theorem live_37_3 : C.live 37 3 = some [2, 1] := by kernel_rfl
@[go_sem] theorem live_37_4 : C.live 37 4 = some [2, 1, 6] := by kernel_rfl
@[go_sem] theorem live_37_5 : C.live 37 5 = some [7, 2, 1, 6, 8] := by kernel_rfl
@[go_sem] theorem live_37_6 : C.live 37 6 = some [8] := by kernel_rfl
@[go_sem] theorem live_37_7 : C.live 37 7 = some [6, 1, 2, 7] := by kernel_rfl
@[go_sem] theorem live_37_8 : C.live 37 8 = some [2, 7] := by kernel_rfl
@[go_sem] theorem live_37_9 : C.live 37 9 = some [7, 9, 10] := by kernel_rfl
@[go_sem] theorem live_37_10 : C.live 37 10 = some [] := by kernel_rfl
@[go_sem] theorem live_37_11 : C.live 37 11 = some [10] := by kernel_rfl
@[go_sem] theorem live_37_12 : C.live 37 12 = some [1, 7, 2] := by kernel_rfl
@[go_sem] theorem live_37_13 : C.live 37 13 = some [11, 7, 2, 8] := by kernel_rfl
@[go_sem] theorem live_37_14 : C.live 37 14 = some [8] := by kernel_rfl
@[go_sem] theorem live_37_15 : C.live 37 15 = some [2, 7, 11] := by kernel_rfl
@[go_sem] theorem live_37_16 : C.live 37 16 = some [12] := by kernel_rfl
@[go_sem] theorem live_37_17 : C.live 37 17 = some [] := by kernel_rfl
@[go_sem] theorem live_37_18 : C.live 37 18 = some [12] := by kernel_rfl
@[go_sem] theorem esc_38 : C.esc 38 = [] := by kernel_rfl
@[go_sem] theorem live_38_0 : C.live 38 0 = some [1, 0] := by kernel_rfl
@[go_sem] theorem live_38_1 : C.live 38 1 = some [1, 0] := by kernel_rfl
@[go_sem] theorem live_38_2 : C.live 38 2 = some [1, 0, 5] := by kernel_rfl
@[go_sem] theorem live_38_3 : C.live 38 3 = some [5, 6, 1, 0] := by kernel_rfl
@[go_sem] theorem live_38_5 : C.live 38 5 = some [5, 6, 1, 0] := by kernel_rfl
@[go_sem] theorem live_38_6 : C.live 38 6 = some [5, 6, 1, 0] := by kernel_rfl
@[go_sem] theorem live_38_7 : C.live 38 7 = some [5, 6, 1, 0] := by kernel_rfl
@[go_sem] theorem live_38_8 : C.live 38 8 = some [5, 6, 1, 0] := by kernel_rfl
@[go_sem] theorem live_38_9 : C.live 38 9 = some [5, 6, 1, 0] := by kernel_rfl
@[go_sem] theorem live_38_4 : C.live 38 4 = some [6, 1, 0, 5] := by kernel_rfl
@[go_sem] theorem live_38_10 : C.live 38 10 = some [5] := by kernel_rfl
@[go_sem] theorem esc_39 : C.esc 39 = [21] := by kernel_rfl
@[go_sem] theorem live_39_0 : C.live 39 0 = some [0] := by kernel_rfl
@[go_sem] theorem live_39_1 : C.live 39 1 = some [1] := by kernel_rfl
@[go_sem] theorem live_39_2 : C.live 39 2 = some [1, 4] := by kernel_rfl
@[go_sem] theorem live_39_3 : C.live 39 3 = some [4] := by kernel_rfl
@[go_sem] theorem live_39_4 : C.live 39 4 = some [1] := by kernel_rfl
@[go_sem] theorem live_39_5 : C.live 39 5 = some [5, 1] := by kernel_rfl
@[go_sem] theorem live_39_6 : C.live 39 6 = some [24, 1, 23, 5, 25] := by kernel_rfl
@[go_sem] theorem live_39_7 : C.live 39 7 = some [24, 1, 23, 5, 25] := by kernel_rfl
@[go_sem] theorem live_39_8 : C.live 39 8 = some [24, 1, 23, 5, 25, 7] := by kernel_rfl
@[go_sem] theorem live_39_9 : C.live 39 9 = some [] := by kernel_rfl
@[go_sem] theorem live_39_10 : C.live 39 10 = some [7, 25, 5, 23, 1, 24] := by kernel_rfl
@[go_sem] theorem live_39_11 : C.live 39 11 = some [25, 5, 23, 1, 24] := by kernel_rfl
@[go_sem] theorem live_39_12 : C.live 39 12 = some [1, 5] := by kernel_rfl
@[go_sem] theorem live_39_13 : C.live 39 13 = some [8, 1, 5] := by kernel_rfl
@[go_sem] theorem live_39_14 : C.live 39 14 = some [42, 5, 1, 41, 8, 43] := by kernel_rfl
@[go_sem] theorem live_39_15 : C.live 39 15 = some [42, 5, 1, 41, 8, 43] := by kernel_rfl
@[go_sem] theorem live_39_16 : C.live 39 16 = some [42, 5, 1, 41, 8, 43, 10] := by kernel_rfl
@[go_sem] theorem live_39_17 : C.live 39 17 = some [] := by kernel_rfl
@[go_sem] theorem live_39_18 : C.live 39 18 = some [10, 43, 8, 41, 1, 5, 42] := by kernel_rfl
@[go_sem] theorem live_39_19 : C.live 39 19 = some [43, 8, 41, 1, 5, 42] := by kernel_rfl
@[go_sem] theorem live_39_20 : C.live 39 20 = some [1, 5] := by kernel_rfl
@[go_sem] theorem live_39_21 : C.live 39 21 = some [5, 11] := by kernel_rfl
@[go_sem] theorem esc_40 : C.esc 40 = [] := by kernel_rfl
@[go_sem] theorem live_40_0 : C.live 40 0 = some [0] := by kernel_rfl
@[go_sem] theorem live_40_1 : C.live 40 1 = some [1] := by kernel_rfl
@[go_sem] theorem live_40_2 : C.live 40 2 = some [] := by kernel_rfl
@[go_sem] theorem live_40_3 : C.live 40 3 = some [1] := by kernel_rfl
@[go_sem] theorem live_40_4 : C.live 40 4 = some [1, 3] := by kernel_rfl
@[go_sem] theorem live_40_5 : C.live 40 5 = some [3] := by kernel_rfl
@[go_sem] theorem live_40_6 : C.live 40 6 = some [1] := by kernel_rfl
@[go_sem] theorem live_40_7 : C.live 40 7 = some [4] := by kernel_rfl
@[go_sem] theorem live_40_8 : C.live 40 8 = some [4, 5] := by kernel_rfl
@[go_sem] theorem live_40_10 : C.live 40 10 = some [4, 5] := by kernel_rfl
@[go_sem] theorem live_40_11 : C.live 40 11 = some [4, 5] := by kernel_rfl
@[go_sem] theorem live_40_12 : C.live 40 12 = some [4, 5, 6] := by kernel_rfl
@[go_sem] theorem live_40_13 : C.live 40 13 = some [6] := by kernel_rfl
@[go_sem] theorem live_40_9 : C.live 40 9 = some [5, 4] := by kernel_rfl
@[go_sem] theorem live_40_14 : C.live 40 14 = some [4] := by kernel_rfl
@[go_sem] theorem live_40_15 : C.live 40 15 = some [] := by kernel_rfl
@[go_sem] theorem live_40_16 : C.live 40 16 = some [] := by kernel_rfl
@[go_sem] theorem esc_41 : C.esc 41 = [] := by kernel_rfl
@[go_sem] theorem live_41_0 : C.live 41 0 = some [0, 2, 3, 1] := by kernel_rfl
@[go_sem] theorem live_41_1 : C.live 41 1 = some [2, 4, 3, 1, 8] := by kernel_rfl
@[go_sem] theorem live_41_2 : C.live 41 2 = some [2, 4, 3, 1, 9, 8] := by kernel_rfl
@[go_sem] theorem live_41_3 : C.live 41 3 = some [2, 4, 3, 1, 9, 8] := by kernel_rfl
@[go_sem] theorem live_41_4 : C.live 41 4 = some [4, 3, 1, 9, 8] := by kernel_rfl
@[go_sem] theorem live_41_5 : C.live 41 5 = some [3, 1, 9, 8] := by kernel_rfl
@[go_sem] theorem live_41_6 : C.live 41 6 = some [1, 9, 8] := by kernel_rfl
@[go_sem] theorem live_41_7 : C.live 41 7 = some [9, 8] := by kernel_rfl
@[go_sem] theorem esc_42 : C.esc 42 = [] := by kernel_rfl
@[go_sem] theorem live_42_0 : C.live 42 0 = some [0, 1] := by kernel_rfl
@[go_sem] theorem live_42_1 : C.live 42 1 = some [2, 1] := by kernel_rfl
@[go_sem] theorem live_42_2 : C.live 42 2 = some [1, 2, 5] := by kernel_rfl
@[go_sem] theorem live_42_4 : C.live 42 4 = some [1, 2, 5] := by kernel_rfl
@[go_sem] theorem live_42_5 : C.live 42 5 = some [1, 2, 5, 6] := by kernel_rfl
@[go_sem] theorem live_42_6 : C.live 42 6 = some [9, 8, 1, 2, 5, 7, 6] := by kernel_rfl
@[go_sem] theorem live_42_7 : C.live 42 7 = some [8, 1, 2, 5, 7, 6] := by kernel_rfl
@[go_sem] theorem live_42_8 : C.live 42 8 = some [8, 9, 1, 2, 5, 7, 6] := by kernel_rfl
@[go_sem] theorem live_42_9 : C.live 42 9 = some [1, 2, 5, 7, 6] := by kernel_rfl
@[go_sem] theorem live_42_10 : C.live 42 10 = some [9, 1, 2, 5, 7, 6] := by kernel_rfl
@[go_sem] theorem live_42_11 : C.live 42 11 = some [1, 2, 5, 7, 6] := by kernel_rfl
@[go_sem] theorem live_42_12 : C.live 42 12 = some [9, 1, 2, 5, 7, 6] := by kernel_rfl
@[go_sem] theorem live_42_13 : C.live 42 13 = some [1, 2, 5, 7, 6] := by kernel_rfl
@[go_sem] theorem live_42_14 : C.live 42 14 = some [9, 1, 2, 5, 7, 6] := by kernel_rfl
@[go_sem] theorem live_42_15 : C.live 42 15 = some [1, 2, 5, 7, 6] := by kernel_rfl
@[go_sem] theorem live_42_16 : C.live 42 16 = some [1, 2, 5, 7, 6, 9] := by kernel_rfl
@[go_sem] theorem live_42_17 : C.live 42 17 = some [9] := by kernel_rfl
@[go_sem] theorem live_42_18 : C.live 42 18 = some [6, 7, 5, 2, 1] := by kernel_rfl
@[go_sem] theorem live_42_19 : C.live 42 19 = some [6, 7, 5, 2, 1] := by kernel_rfl
@[go_sem] theorem live_42_3 : C.live 42 3 = some [5, 2, 1] := by kernel_rfl
@[go_sem] theorem live_42_20 : C.live 42 20 = some [] := by kernel_rfl
@[go_sem] theorem esc_43 : C.esc 43 = [3] := by kernel_rfl
@[go_sem] theorem live_43_0 : C.live 43 0 = some [0] := by kernel_rfl
@[go_sem] theorem live_43_1 : C.live 43 1 = some [1] := by kernel_rfl
@[go_sem] theorem live_43_2 : C.live 43 2 = some [3, 1] := by kernel_rfl
@[go_sem] theorem live_43_3 : C.live 43 3 = some [9, 3, 7, 1, 8] := by kernel_rfl
@[go_sem] theorem live_43_4 : C.live 43 4 = some [9, 3, 7, 1, 8] := by kernel_rfl
@[go_sem] theorem live_43_5 : C.live 43 5 = some [5, 9, 3, 7, 1, 8] := by kernel_rfl
@[go_sem] theorem live_43_6 : C.live 43 6 = some [9, 3, 7, 1, 8] := by kernel_rfl
@[go_sem] theorem live_43_7 : C.live 43 7 = some [1, 3] := by kernel_rfl
@[go_sem] theorem live_43_8 : C.live 43 8 = some [3] := by kernel_rfl
@[go_sem] theorem esc_44 : C.esc 44 = [] := by kernel_rfl
@[go_sem] theorem live_44_0 : C.live 44 0 = some [0] := by kernel_rfl
@[go_sem] theorem live_44_1 : C.live 44 1 = some [0] := by kernel_rfl
@[go_sem] theorem live_44_2 : C.live 44 2 = some [0, 3] := by kernel_rfl
@[go_sem] theorem live_44_4 : C.live 44 4 = some [0, 3] := by kernel_rfl
@[go_sem] theorem live_44_5 : C.live 44 5 = some [] := by kernel_rfl
@[go_sem] theorem live_44_3 : C.live 44 3 = some [3, 0] := by kernel_rfl
@[go_sem] theorem live_44_6 : C.live 44 6 = some [0] := by kernel_rfl
@[go_sem] theorem esc_45 : C.esc 45 = [] := by kernel_rfl
@[go_sem] theorem live_45_0 : C.live 45 0 = some [0, 1] := by kernel_rfl
@[go_sem] theorem live_45_1 : C.live 45 1 = some [1, 2] := by kernel_rfl
@[go_sem] theorem live_45_2 : C.live 45 2 = some [2] := by kernel_rfl
@[go_sem] theorem live_45_3 : C.live 45 3 = some [2] := by kernel_rfl
@[go_sem] theorem esc_46 : C.esc 46 = [] := by kernel_rfl
@[go_sem] theorem live_46_0 : C.live 46 0 = some [0, 1] := by kernel_rfl
@[go_sem] theorem live_46_1 : C.live 46 1 = some [2, 1] := by kernel_rfl
@[go_sem] theorem live_46_2 : C.live 46 2 = some [] := by kernel_rfl
@[go_sem] theorem live_46_3 : C.live 46 3 = some [1, 2] := by kernel_rfl
@[go_sem] theorem live_46_4 : C.live 46 4 = some [2, 1, 5] := by kernel_rfl
@[go_sem] theorem live_46_6 : C.live 46 6 = some [2, 1, 5] := by kernel_rfl
@[go_sem] theorem live_46_7 : C.live 46 7 = some [] := by kernel_rfl
@[go_sem] theorem live_46_5 : C.live 46 5 = some [5, 1, 2] := by kernel_rfl
@[go_sem] theorem live_46_8 : C.live 46 8 = some [] := by kernel_rfl
@[go_sem] theorem esc_47 : C.esc 47 = [] := by kernel_rfl
@[go_sem] theorem live_47_0 : C.live 47 0 = some [0, 1] := by kernel_rfl
@[go_sem] theorem live_47_1 : C.live 47 1 = some [0, 1] := by kernel_rfl
@[go_sem] theorem live_47_2 : C.live 47 2 = some [5, 0, 1] := by kernel_rfl
@[go_sem] theorem live_47_3 : C.live 47 3 = some [5, 1] := by kernel_rfl
@[go_sem] theorem esc_48 : C.esc 48 = [] := by kernel_rfl
@[go_sem] theorem live_48_0 : C.live 48 0 = some [0] := by kernel_rfl
@[go_sem] theorem live_48_1 : C.live 48 1 = some [0] := by kernel_rfl
@[go_sem] theorem esc_49 : C.esc 49 = [] := by kernel_rfl
@[go_sem] theorem live_49_0 : C.live 49 0 = some [0, 1] := by kernel_rfl
@[go_sem] theorem live_49_1 : C.live 49 1 = some [1, 2] := by kernel_rfl
@[go_sem] theorem live_49_2 : C.live 49 2 = some [2, 1, 5] := by kernel_rfl
@[go_sem] theorem live_49_4 : C.live 49 4 = some [2, 1, 5] := by kernel_rfl
@[go_sem] theorem live_49_5 : C.live 49 5 = some [] := by kernel_rfl
@[go_sem] theorem live_49_3 : C.live 49 3 = some [5, 1, 2] := by kernel_rfl
@[go_sem] theorem live_49_6 : C.live 49 6 = some [2, 1] := by kernel_rfl
@[go_sem] theorem live_49_7 : C.live 49 7 = some [1, 6] := by kernel_rfl
@[go_sem] theorem live_49_8 : C.live 49 8 = some [6, 1, 7] := by kernel_rfl
@[go_sem] theorem live_49_10 : C.live 49 10 = some [6, 1, 7] := by kernel_rfl
@[go_sem] theorem live_49_11 : C.live 49 11 = some [] := by kernel_rfl
@[go_sem] theorem live_49_9 : C.live 49 9 = some [7, 1, 6] := by kernel_rfl
@[go_sem] theorem live_49_12 : C.live 49 12 = some [] := by kernel_rfl
@[go_sem] theorem esc_50 : C.esc 50 = [] := by kernel_rfl
@[go_sem] theorem live_50_0 : C.live 50 0 = some [2, 1, 0] := by kernel_rfl
@[go_sem] theorem live_50_1 : C.live 50 1 = some [2, 1, 0] := by kernel_rfl
@[go_sem] theorem live_50_2 : C.live 50 2 = some [7, 2, 1, 0] := by kernel_rfl
@[go_sem] theorem live_50_3 : C.live 50 3 = some [7, 8, 2, 1, 0] := by kernel_rfl
@[go_sem] theorem live_50_5 : C.live 50 5 = some [7, 8, 2, 1, 0] := by kernel_rfl
@[go_sem] theorem live_50_6 : C.live 50 6 = some [7, 9, 8, 2, 1, 0] := by kernel_rfl
@[go_sem] theorem live_50_7 : C.live 50 7 = some [7, 9, 8, 2, 1, 0] := by kernel_rfl
@[go_sem] theorem live_50_8 : C.live 50 8 = some [7, 9, 8, 2, 1, 0] := by kernel_rfl
@[go_sem] theorem live_50_9 : C.live 50 9 = some [7, 9, 8, 2, 1, 0] := by kernel_rfl
@[go_sem] theorem live_50_10 : C.live 50 10 = some [7, 9, 8, 2, 1, 0] := by kernel_rfl
@[go_sem] theorem live_50_11 : C.live 50 11 = some [7, 9, 8, 2, 1, 0] := by kernel_rfl
@[go_sem] theorem live_50_4 : C.live 50 4 = some [8, 7, 2, 1, 0] := by kernel_rfl
@[go_sem] theorem live_50_12 : C.live 50 12 = some [7] := by kernel_rfl
@[go_sem] theorem esc_51 : C.esc 51 = [] := by kernel_rfl
@[go_sem] theorem live_51_0 : C.live 51 0 = some [1, 0, 2] := by kernel_rfl
@[go_sem] theorem live_51_1 : C.live 51 1 = some [1, 0, 2] := by kernel_rfl
@[go_sem] theorem live_51_2 : C.live 51 2 = some [2] := by kernel_rfl
@[go_sem] theorem live_51_3 : C.live 51 3 = some [0] := by kernel_rfl
@[go_sem] theorem esc_52 : C.esc 52 = [] := by kernel_rfl
@[go_sem] theorem live_52_0 : C.live 52 0 = some [2, 1, 0] := by kernel_rfl
@[go_sem] theorem live_52_1 : C.live 52 1 = some [2, 1, 0] := by kernel_rfl
@[go_sem] theorem live_52_2 : C.live 52 2 = some [0, 7, 2, 1] := by kernel_rfl
@[go_sem] theorem live_52_4 : C.live 52 4 = some [0, 7, 2, 1] := by kernel_rfl
@[go_sem] theorem live_52_5 : C.live 52 5 = some [0, 7, 2, 1] := by kernel_rfl
@[go_sem] theorem live_52_6 : C.live 52 6 = some [0, 7, 2, 1] := by kernel_rfl
@[go_sem] theorem live_52_7 : C.live 52 7 = some [0, 7, 2, 1] := by kernel_rfl
@[go_sem] theorem live_52_8 : C.live 52 8 = some [0, 7, 2, 1] := by kernel_rfl
@[go_sem] theorem live_52_9 : C.live 52 9 = some [0, 7, 2, 1] := by kernel_rfl
@[go_sem] theorem live_52_10 : C.live 52 10 = some [0, 7, 2, 1] := by kernel_rfl
@[go_sem] theorem live_52_3 : C.live 52 3 = some [7, 2, 1, 0] := by kernel_rfl
@[go_sem] theorem live_52_11 : C.live 52 11 = some [0] := by kernel_rfl
@[go_sem] theorem esc_53 : C.esc 53 = [] := by kernel_rfl
@[go_sem] theorem live_53_0 : C.live 53 0 = some [0, 1] := by kernel_rfl
@[go_sem] theorem live_53_1 : C.live 53 1 = some [1, 2] := by kernel_rfl
@[go_sem] theorem live_53_2 : C.live 53 2 = some [1, 2, 5] := by kernel_rfl
@[go_sem] theorem live_53_3 : C.live 53 3 = some [5] := by kernel_rfl
@[go_sem] theorem live_53_4 : C.live 53 4 = some [2, 1] := by kernel_rfl
@[go_sem] theorem live_53_5 : C.live 53 5 = some [17, 16, 1, 18] := by kernel_rfl
@[go_sem] theorem live_53_6 : C.live 53 6 = some [17, 16, 1, 18] := by kernel_rfl
@[go_sem] theorem live_53_7 : C.live 53 7 = some [7, 17, 16, 1, 18] := by kernel_rfl
@[go_sem] theorem live_53_8 : C.live 53 8 = some [17, 16, 1, 18, 8] := by kernel_rfl
@[go_sem] theorem live_53_9 : C.live 53 9 = some [8] := by kernel_rfl
@[go_sem] theorem live_53_10 : C.live 53 10 = some [18, 1, 16, 17] := by kernel_rfl
@[go_sem] theorem live_53_11 : C.live 53 11 = some [] := by kernel_rfl
@[go_sem] theorem esc_54 : C.esc 54 = [] := by kernel_rfl
@[go_sem] theorem live_54_0 : C.live 54 0 = some [1, 0] := by kernel_rfl
@[go_sem] theorem live_54_1 : C.live 54 1 = some [1, 0] := by kernel_rfl
@[go_sem] theorem esc_55 : C.esc 55 = [] := by kernel_rfl
@[go_sem] theorem live_55_0 : C.live 55 0 = some [0] := by kernel_rfl
@[go_sem] theorem live_55_1 : C.live 55 1 = some [0] := by kernel_rfl
@[go_sem] theorem live_55_2 : C.live 55 2 = some [4] := by kernel_rfl
@[go_sem] theorem live_55_3 : C.live 55 3 = some [4] := by kernel_rfl
@[go_sem] theorem live_55_4 : C.live 55 4 = some [4] := by kernel_rfl
@[go_sem] theorem live_55_5 : C.live 55 5 = some [4] := by kernel_rfl
@[go_sem] theorem live_55_6 : C.live 55 6 = some [4] := by kernel_rfl
@[go_sem] theorem live_55_7 : C.live 55 7 = some [4] := by kernel_rfl
@[go_sem] theorem live_55_8 : C.live 55 8 = some [4] := by kernel_rfl
@[go_sem] theorem live_55_9 : C.live 55 9 = some [4] := by kernel_rfl
@[go_sem] theorem live_55_10 : C.live 55 10 = some [4] := by kernel_rfl
@[go_sem] theorem live_55_11 : C.live 55 11 = some [4] := by kernel_rfl
@[go_sem] theorem live_55_13 : C.live 55 13 = some [4] := by kernel_rfl
@[go_sem] theorem live_55_14 : C.live 55 14 = some [4] := by kernel_rfl
@[go_sem] theorem live_55_15 : C.live 55 15 = some [4] := by kernel_rfl
@[go_sem] theorem live_55_17 : C.live 55 17 = some [4] := by kernel_rfl
@[go_sem] theorem live_55_18 : C.live 55 18 = some [4] := by kernel_rfl
@[go_sem] theorem live_55_19 : C.live 55 19 = some [4] := by kernel_rfl
@[go_sem] theorem live_55_21 : C.live 55 21 = some [4] := by kernel_rfl
@[go_sem] theorem live_55_23 : C.live 55 23 = some [4] := by kernel_rfl
@[go_sem] theorem live_55_24 : C.live 55 24 = some [4] := by kernel_rfl
@[go_sem] theorem live_55_25 : C.live 55 25 = some [] := by kernel_rfl
@[go_sem] theorem live_55_22 : C.live 55 22 = some [] := by kernel_rfl
@[go_sem] theorem live_55_20 : C.live 55 20 = some [] := by kernel_rfl
@[go_sem] theorem live_55_16 : C.live 55 16 = some [] := by kernel_rfl
@[go_sem] theorem live_55_12 : C.live 55 12 = some [] := by kernel_rfl
@[go_sem] theorem live_55_26 : C.live 55 26 = some [] := by kernel_rfl
@[go_sem] theorem esc_56 : C.esc 56 = [] := by kernel_rfl
@[go_sem] theorem live_56_0 : C.live 56 0 = some [0, 1] := by kernel_rfl
@[go_sem] theorem live_56_1 : C.live 56 1 = some [2, 1] := by kernel_rfl
@[go_sem] theorem live_56_2 : C.live 56 2 = some [2, 1, 5] := by kernel_rfl
@[go_sem] theorem live_56_3 : C.live 56 3 = some [5] := by kernel_rfl
@[go_sem] theorem live_56_4 : C.live 56 4 = some [1, 2] := by kernel_rfl
@[go_sem] theorem live_56_5 : C.live 56 5 = some [2, 1, 6] := by kernel_rfl
@[go_sem] theorem live_56_7 : C.live 56 7 = some [2, 1, 6] := by kernel_rfl
@[go_sem] theorem live_56_8 : C.live 56 8 = some [2, 1, 6, 7] := by kernel_rfl
@[go_sem] theorem live_56_9 : C.live 56 9 = some [7] := by kernel_rfl
@[go_sem] theorem live_56_6 : C.live 56 6 = some [6, 1, 2] := by kernel_rfl
@[go_sem] theorem live_56_10 : C.live 56 10 = some [] := by kernel_rfl
@[go_sem] theorem esc_57 : C.esc 57 = [] := by kernel_rfl
@[go_sem] theorem live_57_0 : C.live 57 0 = some [0] := by kernel_rfl
@[go_sem] theorem live_57_1 : C.live 57 1 = some [0] := by kernel_rfl
@[go_sem] theorem live_57_2 : C.live 57 2 = some [0, 3] := by kernel_rfl
@[go_sem] theorem live_57_3 : C.live 57 3 = some [0, 3] := by kernel_rfl
@[go_sem] theorem live_57_4 : C.live 57 4 = some [0, 3] := by kernel_rfl
@[go_sem] theorem live_57_5 : C.live 57 5 = some [0, 3] := by kernel_rfl
@[go_sem] theorem live_57_6 : C.live 57 6 = some [0, 3] := by kernel_rfl
@[go_sem] theorem live_57_7 : C.live 57 7 = some [0, 3] := by kernel_rfl
@[go_sem] theorem live_57_9 : C.live 57 9 = some [3, 0] := by kernel_rfl
@[go_sem] theorem live_57_10 : C.live 57 10 = some [3, 0] := by kernel_rfl
@[go_sem] theorem live_57_11 : C.live 57 11 = some [3, 0] := by kernel_rfl
@[go_sem] theorem live_57_12 : C.live 57 12 = some [3, 0] := by kernel_rfl
@[go_sem] theorem live_57_13 : C.live 57 13 = some [3, 0] := by kernel_rfl
@[go_sem] theorem live_57_14 : C.live 57 14 = some [3, 0] := by kernel_rfl
@[go_sem] theorem live_57_15 : C.live 57 15 = some [3, 0] := by kernel_rfl
@[go_sem] theorem live_57_16 : C.live 57 16 = some [] := by kernel_rfl
@[go_sem] theorem live_57_8 : C.live 57 8 = some [] := by kernel_rfl
@[go_sem] theorem live_57_17 : C.live 57 17 = some [0] := by kernel_rfl
@[go_sem] theorem live_57_18 : C.live 57 18 = some [] := by kernel_rfl
@[go_sem] theorem live_57_19 : C.live 57 19 = some [] := by kernel_rfl
@[go_sem] theorem esc_58 : C.esc 58 = [] := by kernel_rfl
@[go_sem] theorem live_58_0 : C.live 58 0 = some [0, 1] := by kernel_rfl
@[go_sem] theorem live_58_1 : C.live 58 1 = some [1, 2] := by kernel_rfl
@[go_sem] theorem live_58_2 : C.live 58 2 = some [1, 2] := by kernel_rfl
@[go_sem] theorem live_58_3 : C.live 58 3 = some [2] := by kernel_rfl
@[go_sem] theorem live_58_4 : C.live 58 4 = some [] := by kernel_rfl
@[go_sem] theorem live_58_5 : C.live 58 5 = some [] := by kernel_rfl
@[go_sem] theorem esc_59 : C.esc 59 = [] := by kernel_rfl
@[go_sem] theorem live_59_0 : C.live 59 0 = some [0] := by kernel_rfl
@[go_sem] theorem live_59_1 : C.live 59 1 = some [0] := by kernel_rfl
@[go_sem] theorem live_59_2 : C.live 59 2 = some [4] := by kernel_rfl
@[go_sem] theorem live_59_4 : C.live 59 4 = some [4] := by kernel_rfl
@[go_sem] theorem live_59_6 : C.live 59 6 = some [4] := by kernel_rfl
@[go_sem] theorem live_59_8 : C.live 59 8 = some [4] := by kernel_rfl
@[go_sem] theorem live_59_9 : C.live 59 9 = some [4] := by kernel_rfl
@[go_sem] theorem live_59_11 : C.live 59 11 = some [4] := by kernel_rfl
@[go_sem] theorem live_59_12 : C.live 59 12 = some [] := by kernel_rfl
@[go_sem] theorem live_59_10 : C.live 59 10 = some [] := by kernel_rfl
@[go_sem] theorem live_59_7 : C.live 59 7 = some [] := by kernel_rfl
@[go_sem] theorem live_59_5 : C.live 59 5 = some [] := by kernel_rfl
@[go_sem] theorem live_59_3 : C.live 59 3 = some [] := by kernel_rfl
@[go_sem] theorem live_59_13 : C.live 59 13 = some [] := by kernel_rfl
@[go_sem] theorem esc_60 : C.esc 60 = [] := by kernel_rfl
@[go_sem] theorem live_60_0 : C.live 60 0 = some [2, 1, 0] := by kernel_rfl
@[go_sem] theorem live_60_1 : C.live 60 1 = some [2, 1, 0] := by kernel_rfl
@[go_sem] theorem live_60_2 : C.live 60 2 = some [] := by kernel_rfl
@[go_sem] theorem live_60_3 : C.live 60 3 = some [0, 1] := by kernel_rfl
@[go_sem] theorem live_60_4 : C.live 60 4 = some [] := by kernel_rfl
@[go_sem] theorem live_60_5 : C.live 60 5 = some [1, 0] := by kernel_rfl
@[go_sem] theorem live_60_6 : C.live 60 6 = some [] := by kernel_rfl
@[go_sem] theorem live_60_7 : C.live 60 7 = some [0, 1] := by kernel_rfl
@[go_sem] theorem live_60_8 : C.live 60 8 = some [] := by kernel_rfl
@[go_sem] theorem live_60_9 : C.live 60 9 = some [] := by kernel_rfl
@[go_sem] theorem esc_61 : C.esc 61 = [3] := by kernel_rfl
@[go_sem] theorem live_61_0 : C.live 61 0 = some [0] := by kernel_rfl
@[go_sem] theorem live_61_1 : C.live 61 1 = some [1] := by kernel_rfl
@[go_sem] theorem live_61_2 : C.live 61 2 = some [] := by kernel_rfl
@[go_sem] theorem live_61_3 : C.live 61 3 = some [1] := by kernel_rfl
@[go_sem] theorem live_61_4 : C.live 61 4 = some [1, 3] := by kernel_rfl
@[go_sem] theorem live_61_5 : C.live 61 5 = some [3] := by kernel_rfl
@[go_sem] theorem live_61_6 : C.live 61 6 = some [1, 3] := by kernel_rfl
@[go_sem] theorem live_61_7 : C.live 61 7 = some [4, 3] := by kernel_rfl
@[go_sem] theorem live_61_8 : C.live 61 8 = some [] := by kernel_rfl
@[go_sem] theorem live_61_9 : C.live 61 9 = some [3] := by kernel_rfl
@[go_sem] theorem esc_62 : C.esc 62 = [] := by kernel_rfl
@[go_sem] theorem live_62_0 : C.live 62 0 = some [0, 1, 2] := by kernel_rfl
@[go_sem] theorem live_62_1 : C.live 62 1 = some [0, 1, 2] := by kernel_rfl
@[go_sem] theorem esc_63 : C.esc 63 = [] := by kernel_rfl
@[go_sem] theorem live_63_0 : C.live 63 0 = some [0, 1] := by kernel_rfl
@[go_sem] theorem live_63_1 : C.live 63 1 = some [0, 1] := by kernel_rfl
@[go_sem] theorem live_63_2 : C.live 63 2 = some [11, 1, 10, 0, 12] := by kernel_rfl
@[go_sem] theorem live_63_3 : C.live 63 3 = some [11, 1, 10, 0, 12] := by kernel_rfl
@[go_sem] theorem live_63_4 : C.live 63 4 = some [6, 11, 1, 10, 0, 12] := by kernel_rfl
@[go_sem] theorem live_63_5 : C.live 63 5 = some [11, 1, 10, 0, 12, 7] := by kernel_rfl
@[go_sem] theorem live_63_6 : C.live 63 6 = some [7] := by kernel_rfl
@[go_sem] theorem live_63_7 : C.live 63 7 = some [12, 0, 10, 1, 11] := by kernel_rfl
@[go_sem] theorem live_63_8 : C.live 63 8 = some [1, 0] := by kernel_rfl
@[go_sem] theorem live_63_9 : C.live 63 9 = some [25, 0, 23, 24] := by kernel_rfl
@[go_sem] theorem live_63_10 : C.live 63 10 = some [25, 0, 23, 24] := by kernel_rfl
@[go_sem] theorem live_63_11 : C.live 63 11 = some [9, 25, 0, 23, 24] := by kernel_rfl
@[go_sem] theorem live_63_12 : C.live 63 12 = some [9, 25, 0, 23, 24] := by kernel_rfl
@[go_sem] theorem live_63_13 : C.live 63 13 = some [25, 0, 23, 24] := by kernel_rfl
@[go_sem] theorem live_63_14 : C.live 63 14 = some [] := by kernel_rfl
@[go_sem] theorem esc_64 : C.esc 64 = [] := by kernel_rfl
@[go_sem] theorem live_64_0 : C.live 64 0 = some [0] := by kernel_rfl
@[go_sem] theorem live_64_1 : C.live 64 1 = some [0] := by kernel_rfl
@[go_sem] theorem live_64_2 : C.live 64 2 = some [] := by kernel_rfl
@[go_sem] theorem live_64_3 : C.live 64 3 = some [0] := by kernel_rfl
@[go_sem] theorem live_64_4 : C.live 64 4 = some [3, 0] := by kernel_rfl
@[go_sem] theorem live_64_6 : C.live 64 6 = some [3, 0] := by kernel_rfl
@[go_sem] theorem live_64_7 : C.live 64 7 = some [] := by kernel_rfl
@[go_sem] theorem live_64_8 : C.live 64 8 = some [0, 3] := by kernel_rfl
@[go_sem] theorem live_64_9 : C.live 64 9 = some [] := by kernel_rfl
@[go_sem] theorem live_64_10 : C.live 64 10 = some [3, 0] := by kernel_rfl
@[go_sem] theorem live_64_11 : C.live 64 11 = some [0, 3, 4] := by kernel_rfl
@[go_sem] theorem live_64_13 : C.live 64 13 = some [0, 3, 4] := by kernel_rfl
@[go_sem] theorem live_64_14 : C.live 64 14 = some [] := by kernel_rfl
@[go_sem] theorem live_64_12 : C.live 64 12 = some [4, 3, 0] := by kernel_rfl
@[go_sem] theorem live_64_5 : C.live 64 5 = some [3, 0] := by kernel_rfl
@[go_sem] theorem live_64_15 : C.live 64 15 = some [] := by kernel_rfl
@[go_sem] theorem esc_65 : C.esc 65 = [] := by kernel_rfl
@[go_sem] theorem live_65_0 : C.live 65 0 = some [0, 1] := by kernel_rfl
@[go_sem] theorem live_65_1 : C.live 65 1 = some [2, 1] := by kernel_rfl
@[go_sem] theorem live_65_2 : C.live 65 2 = some [6, 9, 10, 5, 8, 2, 1, 7] := by kernel_rfl
@[go_sem] theorem live_65_3 : C.live 65 3 = some [] := by kernel_rfl
@[go_sem] theorem live_65_4 : C.live 65 4 = some [7, 1, 2, 8, 5] := by kernel_rfl
@[go_sem] theorem live_65_5 : C.live 65 5 = some [] := by kernel_rfl
@[go_sem] theorem live_65_6 : C.live 65 6 = some [5, 8, 2, 1, 7] := by kernel_rfl
@[go_sem] theorem live_65_7 : C.live 65 7 = some [] := by kernel_rfl
@[go_sem] theorem live_65_8 : C.live 65 8 = some [7, 1, 2, 8] := by kernel_rfl
@[go_sem] theorem live_65_9 : C.live 65 9 = some [1, 2, 8] := by kernel_rfl
@[go_sem] theorem live_65_10 : C.live 65 10 = some [1, 2, 8, 11] := by kernel_rfl
@[go_sem] theorem live_65_11 : C.live 65 11 = some [11] := by kernel_rfl
@[go_sem] theorem live_65_12 : C.live 65 12 = some [8, 2, 1] := by kernel_rfl
@[go_sem] theorem live_65_13 : C.live 65 13 = some [2, 1] := by kernel_rfl
@[go_sem] theorem live_65_14 : C.live 65 14 = some [1, 12] := by kernel_rfl
@[go_sem] theorem live_65_15 : C.live 65 15 = some [12] := by kernel_rfl
@[go_sem] theorem live_65_16 : C.live 65 16 = some [1] := by kernel_rfl
@[go_sem] theorem live_65_17 : C.live 65 17 = some [] := by kernel_rfl
@[go_sem] theorem live_65_18 : C.live 65 18 = some [] := by kernel_rfl
@[go_sem] theorem esc_66 : C.esc 66 = [] := by kernel_rfl
@[go_sem] theorem live_66_0 : C.live 66 0 = some [0, 1] := by kernel_rfl
@[go_sem] theorem live_66_1 : C.live 66 1 = some [3, 2] := by kernel_rfl
@[go_sem] theorem live_66_2 : C.live 66 2 = some [] := by kernel_rfl
@[go_sem] theorem live_66_3 : C.live 66 3 = some [2, 3] := by kernel_rfl
@[go_sem] theorem live_66_4 : C.live 66 4 = some [2, 3, 7, 8] := by kernel_rfl
@[go_sem] theorem live_66_5 : C.live 66 5 = some [7, 8] := by kernel_rfl
@[go_sem] theorem live_66_6 : C.live 66 6 = some [3, 2, 7] := by kernel_rfl
@[go_sem] theorem live_66_7 : C.live 66 7 = some [7, 9, 8] := by kernel_rfl
@[go_sem] theorem esc_67 : C.esc 67 = [] := by kernel_rfl
@[go_sem] theorem live_67_0 : C.live 67 0 = some [0, 2, 1] := by kernel_rfl
@[go_sem] theorem live_67_1 : C.live 67 1 = some [2, 3, 1] := by kernel_rfl
@[go_sem] theorem live_67_2 : C.live 67 2 = some [7, 2, 3, 1, 8] := by kernel_rfl
@[go_sem] theorem live_67_3 : C.live 67 3 = some [8] := by kernel_rfl
@[go_sem] theorem live_67_4 : C.live 67 4 = some [1, 3, 2, 7] := by kernel_rfl
@[go_sem] theorem live_67_5 : C.live 67 5 = some [7, 2, 3, 1, 9] := by kernel_rfl
@[go_sem] theorem live_67_7 : C.live 67 7 = some [7, 2, 3, 1, 9] := by kernel_rfl
@[go_sem] theorem live_67_8 : C.live 67 8 = some [] := by kernel_rfl
@[go_sem] theorem live_67_6 : C.live 67 6 = some [9, 1, 3, 2, 7] := by kernel_rfl
@[go_sem] theorem live_67_9 : C.live 67 9 = some [2, 7] := by kernel_rfl
@[go_sem] theorem live_67_10 : C.live 67 10 = some [] := by kernel_rfl
@[go_sem] theorem live_67_11 : C.live 67 11 = some [] := by kernel_rfl
@[go_sem] theorem esc_68 : C.esc 68 = [] := by kernel_rfl
@[go_sem] theorem live_68_0 : C.live 68 0 = some [0, 1, 2] := by kernel_rfl
@[go_sem] theorem live_68_1 : C.live 68 1 = some [0, 1, 2] := by kernel_rfl
@[go_sem] theorem live_68_2 : C.live 68 2 = some [7, 1, 2] := by kernel_rfl
@[go_sem] theorem live_68_4 : C.live 68 4 = some [7, 2, 1] := by kernel_rfl
@[go_sem] theorem live_68_6 : C.live 68 6 = some [2, 7, 1] := by kernel_rfl
@[go_sem] theorem live_68_8 : C.live 68 8 = some [7, 1, 2] := by kernel_rfl
@[go_sem] theorem live_68_10 : C.live 68 10 = some [7, 1] := by kernel_rfl
@[go_sem] theorem live_68_11 : C.live 68 11 = some [1] := by kernel_rfl
@[go_sem] theorem live_68_9 : C.live 68 9 = some [1, 2] := by kernel_rfl
@[go_sem] theorem live_68_7 : C.live 68 7 = some [1] := by kernel_rfl
@[go_sem] theorem live_68_5 : C.live 68 5 = some [1] := by kernel_rfl
@[go_sem] theorem live_68_3 : C.live 68 3 = some [1, 2] := by kernel_rfl
@[go_sem] theorem live_68_12 : C.live 68 12 = some [] := by kernel_rfl
@[go_sem] theorem esc_69 : C.esc 69 = [11] := by kernel_rfl
@[go_sem] theorem live_69_0 : C.live 69 0 = some [0, 1, 2] := by kernel_rfl
@[go_sem] theorem live_69_1 : C.live 69 1 = some [1, 2, 3] := by kernel_rfl
@[go_sem] theorem live_69_2 : C.live 69 2 = some [3, 7] := by kernel_rfl
@[go_sem] theorem live_69_3 : C.live 69 3 = some [7] := by kernel_rfl
@[go_sem] theorem esc_70 : C.esc 70 = [] := by kernel_rfl
@[go_sem] theorem live_70_0 : C.live 70 0 = some [0, 2] := by kernel_rfl
@[go_sem] theorem live_70_1 : C.live 70 1 = some [3, 2] := by kernel_rfl
@[go_sem] theorem live_70_2 : C.live 70 2 = some [3, 2] := by kernel_rfl
@[go_sem] theorem esc_71 : C.esc 71 = [] := by kernel_rfl
@[go_sem] theorem live_71_0 : C.live 71 0 = some [0] := by kernel_rfl
@[go_sem] theorem esc_72 : C.esc 72 = [] := by kernel_rfl
@[go_sem] theorem live_72_0 : C.live 72 0 = some [0] := by kernel_rfl
@[go_sem] theorem live_72_1 : C.live 72 1 = some [0] := by kernel_rfl
@[go_sem] theorem live_72_2 : C.live 72 2 = some [] := by kernel_rfl
@[go_sem] theorem live_72_3 : C.live 72 3 = some [0] := by kernel_rfl
@[go_sem] theorem live_72_4 : C.live 72 4 = some [0, 3] := by kernel_rfl
@[go_sem] theorem live_72_6 : C.live 72 6 = some [0, 3] := by kernel_rfl
@[go_sem] theorem live_72_7 : C.live 72 7 = some [] := by kernel_rfl
@[go_sem] theorem live_72_5 : C.live 72 5 = some [3, 0] := by kernel_rfl
@[go_sem] theorem live_72_8 : C.live 72 8 = some [] := by kernel_rfl
@[go_sem] theorem esc_73 : C.esc 73 = [] := by kernel_rfl
@[go_sem] theorem live_73_0 : C.live 73 0 = some [0] := by kernel_rfl
@[go_sem] theorem live_73_1 : C.live 73 1 = some [0] := by kernel_rfl
@[go_sem] theorem esc_74 : C.esc 74 = [] := by kernel_rfl
@[go_sem] theorem live_74_0 : C.live 74 0 = some [1, 0] := by kernel_rfl
@[go_sem] theorem live_74_1 : C.live 74 1 = some [1, 0] := by kernel_rfl
@[go_sem] theorem live_74_2 : C.live 74 2 = some [1, 0] := by kernel_rfl
@[go_sem] theorem live_74_3 : C.live 74 3 = some [1] := by kernel_rfl
@[go_sem] theorem esc_75 : C.esc 75 = [] := by kernel_rfl
@[go_sem] theorem live_75_0 : C.live 75 0 = some [0] := by kernel_rfl
@[go_sem] theorem live_75_1 : C.live 75 1 = some [0] := by kernel_rfl
@[go_sem] theorem esc_76 : C.esc 76 = [] := by kernel_rfl
@[go_sem] theorem live_76_0 : C.live 76 0 = some [0, 2, 1] := by kernel_rfl
@[go_sem] theorem live_76_1 : C.live 76 1 = some [2, 1, 3, 6] := by kernel_rfl
@[go_sem] theorem live_76_2 : C.live 76 2 = some [7, 2, 1, 3, 6] := by kernel_rfl
@[go_sem] theorem live_76_3 : C.live 76 3 = some [7, 2, 1, 3, 6] := by kernel_rfl
@[go_sem] theorem live_76_4 : C.live 76 4 = some [7, 2, 1, 3, 6] := by kernel_rfl
@[go_sem] theorem live_76_5 : C.live 76 5 = some [8, 7, 2, 1, 3, 6] := by kernel_rfl
@[go_sem] theorem live_76_7 : C.live 76 7 = some [8, 7, 2, 1, 3, 6] := by kernel_rfl
@[go_sem] theorem live_76_6 : C.live 76 6 = some [8, 7, 2, 1, 3, 6] := by kernel_rfl
@[go_sem] theorem live_76_8 : C.live 76 8 = some [7, 6] := by kernel_rfl
@[go_sem] theorem esc_77 : C.esc 77 = [] := by kernel_rfl
@[go_sem] theorem live_77_0 : C.live 77 0 = some [0] := by kernel_rfl
@[go_sem] theorem live_77_1 : C.live 77 1 = some [1] := by kernel_rfl
@[go_sem] theorem esc_78 : C.esc 78 = [] := by kernel_rfl
@[go_sem] theorem live_78_0 : C.live 78 0 = some [1, 2, 0] := by kernel_rfl
@[go_sem] theorem live_78_1 : C.live 78 1 = some [4, 2, 0] := by kernel_rfl
@[go_sem] theorem live_78_2 : C.live 78 2 = some [0] := by kernel_rfl
@[go_sem] theorem live_78_3 : C.live 78 3 = some [0, 2, 4] := by kernel_rfl
@[go_sem] theorem live_78_4 : C.live 78 4 = some [4, 0] := by kernel_rfl
@[go_sem] theorem live_78_5 : C.live 78 5 = some [0, 7, 4] := by kernel_rfl
@[go_sem] theorem live_78_7 : C.live 78 7 = some [0, 7, 4] := by kernel_rfl
@[go_sem] theorem live_78_6 : C.live 78 6 = some [7, 4, 0] := by kernel_rfl
@[go_sem] theorem live_78_8 : C.live 78 8 = some [0] := by kernel_rfl
@[go_sem] theorem esc_79 : C.esc 79 = [] := by kernel_rfl
@[go_sem] theorem live_79_0 : C.live 79 0 = some [0, 1] := by kernel_rfl
@[go_sem] theorem live_79_1 : C.live 79 1 = some [2, 1] := by kernel_rfl
@[go_sem] theorem live_79_2 : C.live 79 2 = some [2, 5, 1] := by kernel_rfl
@[go_sem] theorem live_79_4 : C.live 79 4 = some [1, 5, 2] := by kernel_rfl
@[go_sem] theorem live_79_6 : C.live 79 6 = some [2, 5, 1] := by kernel_rfl
@[go_sem] theorem live_79_8 : C.live 79 8 = some [1] := by kernel_rfl
@[go_sem] theorem live_79_9 : C.live 79 9 = some [] := by kernel_rfl
@[go_sem] theorem live_79_7 : C.live 79 7 = some [] := by kernel_rfl
@[go_sem] theorem live_79_5 : C.live 79 5 = some [] := by kernel_rfl
@[go_sem] theorem live_79_3 : C.live 79 3 = some [] := by kernel_rfl
@[go_sem] theorem live_79_10 : C.live 79 10 = some [] := by kernel_rfl
@[go_sem] theorem esc_80 : C.esc 80 = [] := by kernel_rfl
@[go_sem] theorem live_80_0 : C.live 80 0 = some [0, 1] := by kernel_rfl
@[go_sem] theorem live_80_1 : C.live 80 1 = some [2, 1] := by kernel_rfl
@[go_sem] theorem live_80_2 : C.live 80 2 = some [] := by kernel_rfl
@[go_sem] theorem live_80_3 : C.live 80 3 = some [1, 2] := by kernel_rfl
@[go_sem] theorem live_80_4 : C.live 80 4 = some [] := by kernel_rfl
@[go_sem] theorem live_80_5 : C.live 80 5 = some [2, 1] := by kernel_rfl
@[go_sem] theorem live_80_6 : C.live 80 6 = some [] := by kernel_rfl
@[go_sem] theorem live_80_7 : C.live 80 7 = some [1] := by kernel_rfl
@[go_sem] theorem live_80_8 : C.live 80 8 = some [] := by kernel_rfl
@[go_sem] theorem live_80_9 : C.live 80 9 = some [] := by kernel_rfl
@[go_sem] theorem esc_81 : C.esc 81 = [] := by kernel_rfl
@[go_sem] theorem live_81_0 : C.live 81 0 = some [0, 1] := by kernel_rfl
@[go_sem] theorem live_81_1 : C.live 81 1 = some [0, 1] := by kernel_rfl
@[go_sem] theorem live_81_2 : C.live 81 2 = some [1, 6, 0] := by kernel_rfl
@[go_sem] theorem live_81_4 : C.live 81 4 = some [1, 6, 0] := by kernel_rfl
@[go_sem] theorem live_81_5 : C.live 81 5 = some [6, 0] := by kernel_rfl
@[go_sem] theorem live_81_6 : C.live 81 6 = some [] := by kernel_rfl
@[go_sem] theorem live_81_7 : C.live 81 7 = some [0, 6] := by kernel_rfl
@[go_sem] theorem live_81_3 : C.live 81 3 = some [6, 0, 1] := by kernel_rfl
@[go_sem] theorem live_81_8 : C.live 81 8 = some [] := by kernel_rfl
@[go_sem] theorem esc_82 : C.esc 82 = [] := by kernel_rfl
@[go_sem] theorem live_82_0 : C.live 82 0 = some [0] := by kernel_rfl
@[go_sem] theorem live_82_1 : C.live 82 1 = some [0] := by kernel_rfl
@[go_sem] theorem esc_83 : C.esc 83 = [4] := by kernel_rfl
@[go_sem] theorem live_83_0 : C.live 83 0 = some [0] := by kernel_rfl
@[go_sem] theorem live_83_1 : C.live 83 1 = some [0] := by kernel_rfl
@[go_sem] theorem live_83_2 : C.live 83 2 = some [] := by kernel_rfl
@[go_sem] theorem live_83_3 : C.live 83 3 = some [0] := by kernel_rfl
@[go_sem] theorem live_83_4 : C.live 83 4 = some [9, 8, 0, 10] := by kernel_rfl
@[go_sem] theorem live_83_5 : C.live 83 5 = some [9, 8, 0, 10] := by kernel_rfl
@[go_sem] theorem live_83_6 : C.live 83 6 = some [3, 4, 9, 8, 0, 10] := by kernel_rfl
@[go_sem] theorem live_83_8 : C.live 83 8 = some [10, 0, 8, 9, 4, 3] := by kernel_rfl
@[go_sem] theorem live_83_10 : C.live 83 10 = some [3, 4, 9, 8, 0, 10] := by kernel_rfl
@[go_sem] theorem live_83_11 : C.live 83 11 = some [] := by kernel_rfl
@[go_sem] theorem live_83_9 : C.live 83 9 = some [] := by kernel_rfl
@[go_sem] theorem live_83_7 : C.live 83 7 = some [] := by kernel_rfl
@[go_sem] theorem live_83_12 : C.live 83 12 = some [10, 0, 8, 9] := by kernel_rfl
@[go_sem] theorem live_83_13 : C.live 83 13 = some [] := by kernel_rfl
@[go_sem] theorem esc_84 : C.esc 84 = [] := by kernel_rfl
@[go_sem] theorem live_84_0 : C.live 84 0 = some [0, 1, 2] := by kernel_rfl
@[go_sem] theorem live_84_1 : C.live 84 1 = some [3, 1, 2] := by kernel_rfl
@[go_sem] theorem live_84_2 : C.live 84 2 = some [3, 1, 2] := by kernel_rfl
@[go_sem] theorem esc_85 : C.esc 85 = [] := by kernel_rfl
@[go_sem] theorem live_85_0 : C.live 85 0 = some [0, 1] := by kernel_rfl
@[go_sem] theorem live_85_1 : C.live 85 1 = some [1, 2] := by kernel_rfl
@[go_sem] theorem live_85_2 : C.live 85 2 = some [6, 1, 2, 5] := by kernel_rfl
@[go_sem] theorem live_85_3 : C.live 85 3 = some [] := by kernel_rfl
@[go_sem] theorem live_85_4 : C.live 85 4 = some [5, 2, 1] := by kernel_rfl
@[go_sem] theorem live_85_5 : C.live 85 5 = some [] := by kernel_rfl
@[go_sem] theorem live_85_6 : C.live 85 6 = some [1, 2, 5] := by kernel_rfl
@[go_sem] theorem live_85_7 : C.live 85 7 = some [1, 2, 5] := by kernel_rfl
@[go_sem] theorem live_85_8 : C.live 85 8 = some [1, 2, 5, 7] := by kernel_rfl
@[go_sem] theorem live_85_9 : C.live 85 9 = some [7] := by kernel_rfl
@[go_sem] theorem live_85_10 : C.live 85 10 = some [5, 2, 1] := by kernel_rfl
@[go_sem] theorem live_85_11 : C.live 85 11 = some [2, 1] := by kernel_rfl
@[go_sem] theorem live_85_12 : C.live 85 12 = some [1, 8] := by kernel_rfl
@[go_sem] theorem live_85_13 : C.live 85 13 = some [8] := by kernel_rfl
@[go_sem] theorem live_85_14 : C.live 85 14 = some [1] := by kernel_rfl
@[go_sem] theorem live_85_15 : C.live 85 15 = some [] := by kernel_rfl
@[go_sem] theorem live_85_16 : C.live 85 16 = some [] := by kernel_rfl
@[go_sem] theorem esc_86 : C.esc 86 = [] := by kernel_rfl
@[go_sem] theorem live_86_0 : C.live 86 0 = some [1, 0] := by kernel_rfl
@[go_sem] theorem live_86_1 : C.live 86 1 = some [3, 0] := by kernel_rfl
@[go_sem] theorem live_86_2 : C.live 86 2 = some [5, 3, 0, 6, 7] := by kernel_rfl
@[go_sem] theorem live_86_3 : C.live 86 3 = some [7] := by kernel_rfl
@[go_sem] theorem live_86_4 : C.live 86 4 = some [6, 0, 3, 5] := by kernel_rfl
@[go_sem] theorem live_86_5 : C.live 86 5 = some [23, 6, 0, 3, 5] := by kernel_rfl
@[go_sem] theorem live_86_7 : C.live 86 7 = some [6, 23, 5, 3, 0] := by kernel_rfl
@[go_sem] theorem live_86_15 : C.live 86 15 = some [3, 0, 23, 5, 6] := by kernel_rfl
@[go_sem] theorem live_86_18 : C.live 86 18 = some [6, 23, 0, 3, 5] := by kernel_rfl
@[go_sem] theorem live_86_21 : C.live 86 21 = some [3, 0, 23, 6, 5] := by kernel_rfl
@[go_sem] theorem live_86_24 : C.live 86 24 = some [6, 23, 5, 0, 3] := by kernel_rfl
@[go_sem] theorem live_86_31 : C.live 86 31 = some [23, 5, 6, 3, 0] := by kernel_rfl
@[go_sem] theorem live_86_32 : C.live 86 32 = some [5, 6, 3, 0] := by kernel_rfl
@[go_sem] theorem live_86_33 : C.live 86 33 = some [] := by kernel_rfl
@[go_sem] theorem live_86_34 : C.live 86 34 = some [0, 3] := by kernel_rfl
@[go_sem] theorem live_86_35 : C.live 86 35 = some [0, 3] := by kernel_rfl
@[go_sem] theorem live_86_36 : C.live 86 36 = some [0, 3] := by kernel_rfl
@[go_sem] theorem live_86_37 : C.live 86 37 = some [0, 3, 11] := by kernel_rfl
@[go_sem] theorem live_86_38 : C.live 86 38 = some [11] := by kernel_rfl
@[go_sem] theorem live_86_25 : C.live 86 25 = some [5, 0, 3] := by kernel_rfl
@[go_sem] theorem live_86_26 : C.live 86 26 = some [] := by kernel_rfl
@[go_sem] theorem live_86_27 : C.live 86 27 = some [3, 0] := by kernel_rfl
@[go_sem] theorem live_86_28 : C.live 86 28 = some [3, 0, 10] := by kernel_rfl
@[go_sem] theorem live_86_29 : C.live 86 29 = some [10] := by kernel_rfl
@[go_sem] theorem live_86_30 : C.live 86 30 = some [0, 3] := by kernel_rfl
@[go_sem] theorem live_86_22 : C.live 86 22 = some [5] := by kernel_rfl
@[go_sem] theorem live_86_23 : C.live 86 23 = some [] := by kernel_rfl
@[go_sem] theorem live_86_19 : C.live 86 19 = some [5] := by kernel_rfl
@[go_sem] theorem live_86_20 : C.live 86 20 = some [] := by kernel_rfl
@[go_sem] theorem live_86_16 : C.live 86 16 = some [5, 6] := by kernel_rfl
@[go_sem] theorem live_86_17 : C.live 86 17 = some [] := by kernel_rfl
@[go_sem] theorem live_86_8 : C.live 86 8 = some [5, 3, 0] := by kernel_rfl
@[go_sem] theorem live_86_9 : C.live 86 9 = some [9, 8, 5, 3, 0] := by kernel_rfl
@[go_sem] theorem live_86_11 : C.live 86 11 = some [0, 3, 5, 8] := by kernel_rfl
@[go_sem] theorem live_86_13 : C.live 86 13 = some [8, 5] := by kernel_rfl
@[go_sem] theorem live_86_14 : C.live 86 14 = some [] := by kernel_rfl
@[go_sem] theorem live_86_12 : C.live 86 12 = some [] := by kernel_rfl
@[go_sem] theorem live_86_10 : C.live 86 10 = some [] := by kernel_rfl
@[go_sem] theorem live_86_6 : C.live 86 6 = some [0, 3, 5] := by kernel_rfl
@[go_sem] theorem live_86_39 : C.live 86 39 = some [] := by kernel_rfl
@[go_sem] theorem esc_87 : C.esc 87 = [] := by kernel_rfl
@[go_sem] theorem live_87_0 : C.live 87 0 = some [0] := by kernel_rfl
@[go_sem] theorem live_87_1 : C.live 87 1 = some [0] := by kernel_rfl
@[go_sem] theorem live_87_2 : C.live 87 2 = some [8] := by kernel_rfl
@[go_sem] theorem live_87_3 : C.live 87 3 = some [8] := by kernel_rfl
@[go_sem] theorem live_87_5 : C.live 87 5 = some [8] := by kernel_rfl
@[go_sem] theorem live_87_7 : C.live 87 7 = some [8] := by kernel_rfl
@[go_sem] theorem live_87_8 : C.live 87 8 = some [8] := by kernel_rfl
@[go_sem] theorem live_87_10 : C.live 87 10 = some [8] := by kernel_rfl
@[go_sem] theorem live_87_12 : C.live 87 12 = some [8] := by kernel_rfl
@[go_sem] theorem live_87_13 : C.live 87 13 = some [] := by kernel_rfl
@[go_sem] theorem live_87_11 : C.live 87 11 = some [] := by kernel_rfl
@[go_sem] theorem live_87_9 : C.live 87 9 = some [] := by kernel_rfl
@[go_sem] theorem live_87_6 : C.live 87 6 = some [] := by kernel_rfl
@[go_sem] theorem live_87_4 : C.live 87 4 = some [] := by kernel_rfl
@[go_sem] theorem live_87_14 : C.live 87 14 = some [] := by kernel_rfl
@[go_sem] theorem esc_88 : C.esc 88 = [] := by kernel_rfl
@[go_sem] theorem live_88_0 : C.live 88 0 = some [1, 0, 2] := by kernel_rfl
@[go_sem] theorem live_88_1 : C.live 88 1 = some [9, 8, 2, 0, 10] := by kernel_rfl
@[go_sem] theorem live_88_2 : C.live 88 2 = some [9, 8, 2, 0, 10] := by kernel_rfl
@[go_sem] theorem live_88_3 : C.live 88 3 = some [9, 8, 2, 0, 10, 7] := by kernel_rfl
@[go_sem] theorem live_88_4 : C.live 88 4 = some [7, 10, 0, 2, 8, 9] := by kernel_rfl
@[go_sem] theorem live_88_5 : C.live 88 5 = some [7, 10, 0, 2, 8, 9] := by kernel_rfl
@[go_sem] theorem live_88_6 : C.live 88 6 = some [7, 10, 0, 2, 8, 9] := by kernel_rfl
@[go_sem] theorem live_88_7 : C.live 88 7 = some [7, 10, 0, 2, 8, 9] := by kernel_rfl
@[go_sem] theorem live_88_8 : C.live 88 8 = some [7, 10, 0, 2, 8, 9] := by kernel_rfl
@[go_sem] theorem live_88_9 : C.live 88 9 = some [7, 10, 0, 2, 8, 9] := by kernel_rfl
@[go_sem] theorem live_88_10 : C.live 88 10 = some [10, 0, 2, 8, 9] := by kernel_rfl
@[go_sem] theorem esc_89 : C.esc 89 = [] := by kernel_rfl
@[go_sem] theorem live_89_0 : C.live 89 0 = some [0] := by kernel_rfl
@[go_sem] theorem live_89_1 : C.live 89 1 = some [0] := by kernel_rfl
@[go_sem] theorem esc_90 : C.esc 90 = [] := by kernel_rfl
@[go_sem] theorem live_90_0 : C.live 90 0 = some [1, 0] := by kernel_rfl
@[go_sem] theorem live_90_1 : C.live 90 1 = some [1, 0] := by kernel_rfl
@[go_sem] theorem live_90_2 : C.live 90 2 = some [0, 1, 5] := by kernel_rfl
@[go_sem] theorem live_90_4 : C.live 90 4 = some [0, 1, 5] := by kernel_rfl
@[go_sem] theorem live_90_5 : C.live 90 5 = some [] := by kernel_rfl
@[go_sem] theorem live_90_3 : C.live 90 3 = some [5, 1, 0] := by kernel_rfl
@[go_sem] theorem live_90_6 : C.live 90 6 = some [] := by kernel_rfl
@[go_sem] theorem esc_91 : C.esc 91 = [] := by kernel_rfl
@[go_sem] theorem live_91_0 : C.live 91 0 = some [] := by kernel_rfl
@[go_sem] theorem live_91_1 : C.live 91 1 = some [] := by kernel_rfl
@[go_sem] theorem esc_92 : C.esc 92 = [] := by kernel_rfl
@[go_sem] theorem live_92_0 : C.live 92 0 = some [0] := by kernel_rfl
@[go_sem] theorem live_92_1 : C.live 92 1 = some [0] := by kernel_rfl
@[go_sem] theorem live_92_3 : C.live 92 3 = some [0] := by kernel_rfl
@[go_sem] theorem live_92_5 : C.live 92 5 = some [0] := by kernel_rfl
@[go_sem] theorem live_92_6 : C.live 92 6 = some [] := by kernel_rfl
@[go_sem] theorem live_92_4 : C.live 92 4 = some [] := by kernel_rfl
@[go_sem] theorem live_92_2 : C.live 92 2 = some [] := by kernel_rfl
@[go_sem] theorem live_92_7 : C.live 92 7 = some [] := by kernel_rfl
@[go_sem] theorem esc_93 : C.esc 93 = [] := by kernel_rfl
@[go_sem] theorem live_93_0 : C.live 93 0 = some [0] := by kernel_rfl
@[go_sem] theorem live_93_1 : C.live 93 1 = some [0] := by kernel_rfl
@[go_sem] theorem live_93_2 : C.live 93 2 = some [0, 3] := by kernel_rfl
@[go_sem] theorem live_93_4 : C.live 93 4 = some [0, 3] := by kernel_rfl
@[go_sem] theorem live_93_5 : C.live 93 5 = some [] := by kernel_rfl
@[go_sem] theorem live_93_3 : C.live 93 3 = some [3, 0] := by kernel_rfl
@[go_sem] theorem live_93_6 : C.live 93 6 = some [0] := by kernel_rfl
@[go_sem] theorem esc_94 : C.esc 94 = [] := by kernel_rfl
@[go_sem] theorem live_94_0 : C.live 94 0 = some [0] := by kernel_rfl
@[go_sem] theorem live_94_1 : C.live 94 1 = some [0] := by kernel_rfl
@[go_sem] theorem esc_95 : C.esc 95 = [] := by kernel_rfl
@[go_sem] theorem live_95_0 : C.live 95 0 = some [0] := by kernel_rfl
@[go_sem] theorem live_95_1 : C.live 95 1 = some [0] := by kernel_rfl
@[go_sem] theorem live_95_2 : C.live 95 2 = some [6, 0] := by kernel_rfl
@[go_sem] theorem live_95_3 : C.live 95 3 = some [7, 6, 0] := by kernel_rfl
@[go_sem] theorem live_95_4 : C.live 95 4 = some [4, 6, 0, 3] := by kernel_rfl
@[go_sem] theorem live_95_5 : C.live 95 5 = some [3] := by kernel_rfl
@[go_sem] theorem live_95_6 : C.live 95 6 = some [0] := by kernel_rfl
@[go_sem] theorem esc_96 : C.esc 96 = [] := by kernel_rfl
@[go_sem] theorem live_96_0 : C.live 96 0 = some [0] := by kernel_rfl
@[go_sem] theorem live_96_1 : C.live 96 1 = some [0] := by kernel_rfl
@[go_sem] theorem live_96_2 : C.live 96 2 = some [3] := by kernel_rfl
@[go_sem] theorem live_96_3 : C.live 96 3 = some [3] := by kernel_rfl
@[go_sem] theorem live_96_4 : C.live 96 4 = some [3] := by kernel_rfl
@[go_sem] theorem live_96_5 : C.live 96 5 = some [3] := by kernel_rfl
@[go_sem] theorem live_96_6 : C.live 96 6 = some [3] := by kernel_rfl
@[go_sem] theorem live_96_7 : C.live 96 7 = some [3] := by kernel_rfl
@[go_sem] theorem live_96_8 : C.live 96 8 = some [3] := by kernel_rfl
@[go_sem] theorem live_96_9 : C.live 96 9 = some [3] := by kernel_rfl
@[go_sem] theorem live_96_10 : C.live 96 10 = some [3] := by kernel_rfl
@[go_sem] theorem live_96_11 : C.live 96 11 = some [3] := by kernel_rfl
@[go_sem] theorem live_96_12 : C.live 96 12 = some [3] := by kernel_rfl
@[go_sem] theorem live_96_13 : C.live 96 13 = some [3] := by kernel_rfl
@[go_sem] theorem live_96_14 : C.live 96 14 = some [3] := by kernel_rfl
@[go_sem] theorem live_96_15 : C.live 96 15 = some [3] := by kernel_rfl
@[go_sem] theorem live_96_16 : C.live 96 16 = some [3] := by kernel_rfl
@[go_sem] theorem live_96_17 : C.live 96 17 = some [3] := by kernel_rfl
@[go_sem] theorem live_96_18 : C.live 96 18 = some [3] := by kernel_rfl
@[go_sem] theorem live_96_19 : C.live 96 19 = some [3] := by kernel_rfl
@[go_sem] theorem live_96_20 : C.live 96 20 = some [3] := by kernel_rfl
@[go_sem] theorem live_96_21 : C.live 96 21 = some [3] := by kernel_rfl
@[go_sem] theorem live_96_22 : C.live 96 22 = some [3] := by kernel_rfl
@[go_sem] theorem live_96_23 : C.live 96 23 = some [3] := by kernel_rfl
@[go_sem] theorem live_96_24 : C.live 96 24 = some [3] := by kernel_rfl
@[go_sem] theorem live_96_25 : C.live 96 25 = some [3] := by kernel_rfl
@[go_sem] theorem live_96_26 : C.live 96 26 = some [3] := by kernel_rfl
@[go_sem] theorem live_96_27 : C.live 96 27 = some [] := by kernel_rfl
@[go_sem] theorem live_96_28 : C.live 96 28 = some [] := by kernel_rfl
@[go_sem] theorem esc_97 : C.esc 97 = [] := by kernel_rfl
@[go_sem] theorem live_97_0 : C.live 97 0 = some [0, 1] := by kernel_rfl
@[go_sem] theorem live_97_1 : C.live 97 1 = some [0, 1] := by kernel_rfl
@[go_sem] theorem esc_98 : C.esc 98 = [] := by kernel_rfl
@[go_sem] theorem live_98_0 : C.live 98 0 = some [0, 1] := by kernel_rfl
@[go_sem] theorem live_98_1 : C.live 98 1 = some [2, 1] := by kernel_rfl
@[go_sem] theorem esc_99 : C.esc 99 = [] := by kernel_rfl
@[go_sem] theorem live_99_0 : C.live 99 0 = some [0] := by kernel_rfl
@[go_sem] theorem live_99_1 : C.live 99 1 = some [0, 2] := by kernel_rfl
@[go_sem] theorem live_99_2 : C.live 99 2 = some [4, 2] := by kernel_rfl
@[go_sem] theorem live_99_3 : C.live 99 3 = some [4, 2] := by kernel_rfl
@[go_sem] theorem live_99_5 : C.live 99 5 = some [4, 2] := by kernel_rfl
@[go_sem] theorem live_99_7 : C.live 99 7 = some [4, 2] := by kernel_rfl
@[go_sem] theorem live_99_8 : C.live 99 8 = some [4, 2] := by kernel_rfl
@[go_sem] theorem live_99_10 : C.live 99 10 = some [4, 2] := by kernel_rfl
@[go_sem] theorem live_99_12 : C.live 99 12 = some [4, 2] := by kernel_rfl
@[go_sem] theorem live_99_14 : C.live 99 14 = some [4, 2] := by kernel_rfl
@[go_sem] theorem live_99_15 : C.live 99 15 = some [2] := by kernel_rfl
@[go_sem] theorem live_99_13 : C.live 99 13 = some [2] := by kernel_rfl
@[go_sem] theorem live_99_11 : C.live 99 11 = some [2] := by kernel_rfl
@[go_sem] theorem live_99_9 : C.live 99 9 = some [2] := by kernel_rfl
@[go_sem] theorem live_99_6 : C.live 99 6 = some [2] := by kernel_rfl
@[go_sem] theorem live_99_4 : C.live 99 4 = some [2] := by kernel_rfl
@[go_sem] theorem live_99_16 : C.live 99 16 = some [2] := by kernel_rfl
@[go_sem] theorem esc_100 : C.esc 100 = [] := by kernel_rfl
@[go_sem] theorem live_100_0 : C.live 100 0 = some [0, 1] := by kernel_rfl
@[go_sem] theorem live_100_1 : C.live 100 1 = some [3, 2] := by kernel_rfl
@[go_sem] theorem live_100_2 : C.live 100 2 = some [] := by kernel_rfl
@[go_sem] theorem live_100_3 : C.live 100 3 = some [2] := by kernel_rfl
@[go_sem] theorem live_100_4 : C.live 100 4 = some [68, 2] := by kernel_rfl
@[go_sem] theorem live_100_6 : C.live 100 6 = some [68, 2] := by kernel_rfl
@[go_sem] theorem live_100_7 : C.live 100 7 = some [2] := by kernel_rfl
@[go_sem] theorem live_100_5 : C.live 100 5 = some [2] := by kernel_rfl
@[go_sem] theorem live_100_8 : C.live 100 8 = some [] := by kernel_rfl
@[go_sem] theorem esc_101 : C.esc 101 = [] := by kernel_rfl
@[go_sem] theorem live_101_0 : C.live 101 0 = some [1, 0] := by kernel_rfl
@[go_sem] theorem live_101_1 : C.live 101 1 = some [0, 3, 5] := by kernel_rfl
@[go_sem] theorem live_101_2 : C.live 101 2 = some [] := by kernel_rfl
@[go_sem] theorem live_101_3 : C.live 101 3 = some [5, 3, 0] := by kernel_rfl
@[go_sem] theorem live_101_4 : C.live 101 4 = some [6, 5, 3, 0, 4] := by kernel_rfl
@[go_sem] theorem live_101_5 : C.live 101 5 = some [3, 0, 4] := by kernel_rfl
@[go_sem] theorem live_101_6 : C.live 101 6 = some [4, 5, 6] := by kernel_rfl
@[go_sem] theorem esc_102 : C.esc 102 = [] := by kernel_rfl
@[go_sem] theorem live_102_0 : C.live 102 0 = some [1, 0] := by kernel_rfl
@[go_sem] theorem live_102_1 : C.live 102 1 = some [3, 0] := by kernel_rfl
@[go_sem] theorem live_102_2 : C.live 102 2 = some [0, 3] := by kernel_rfl
@[go_sem] theorem live_102_3 : C.live 102 3 = some [0, 3] := by kernel_rfl
@[go_sem] theorem esc_103 : C.esc 103 = [] := by kernel_rfl
@[go_sem] theorem live_103_0 : C.live 103 0 = some [0] := by kernel_rfl
@[go_sem] theorem live_103_1 : C.live 103 1 = some [0] := by kernel_rfl
@[go_sem] theorem esc_104 : C.esc 104 = [] := by kernel_rfl
@[go_sem] theorem live_104_0 : C.live 104 0 = some [0, 1] := by kernel_rfl
@[go_sem] theorem live_104_1 : C.live 104 1 = some [0, 1] := by kernel_rfl
@[go_sem] theorem live_104_2 : C.live 104 2 = some [7, 1, 0, 8] := by kernel_rfl
@[go_sem] theorem live_104_3 : C.live 104 3 = some [7, 1, 0, 8] := by kernel_rfl
@[go_sem] theorem live_104_4 : C.live 104 4 = some [7, 1, 0, 8, 5] := by kernel_rfl
@[go_sem] theorem live_104_5 : C.live 104 5 = some [5] := by kernel_rfl
@[go_sem] theorem live_104_6 : C.live 104 6 = some [8, 0, 1, 7] := by kernel_rfl
@[go_sem] theorem live_104_7 : C.live 104 7 = some [] := by kernel_rfl
@[go_sem] theorem esc_105 : C.esc 105 = [] := by kernel_rfl
@[go_sem] theorem live_105_0 : C.live 105 0 = some [0] := by kernel_rfl
@[go_sem] theorem live_105_1 : C.live 105 1 = some [1] := by kernel_rfl
@[go_sem] theorem esc_106 : C.esc 106 = [] := by kernel_rfl
@[go_sem] theorem live_106_0 : C.live 106 0 = some [1, 0] := by kernel_rfl
@[go_sem] theorem live_106_1 : C.live 106 1 = some [0, 3] := by kernel_rfl
@[go_sem] theorem live_106_2 : C.live 106 2 = some [3, 0] := by kernel_rfl
@[go_sem] theorem live_106_3 : C.live 106 3 = some [3, 0] := by kernel_rfl
@[go_sem] theorem live_106_4 : C.live 106 4 = some [21, 0, 19, 20] := by kernel_rfl
@[go_sem] theorem live_106_5 : C.live 106 5 = some [21, 0, 19, 20] := by kernel_rfl
@[go_sem] theorem live_106_6 : C.live 106 6 = some [5, 21, 0, 19, 20] := by kernel_rfl
@[go_sem] theorem live_106_7 : C.live 106 7 = some [21, 0, 19, 20] := by kernel_rfl
@[go_sem] theorem kind_24 : kindT Try.prog 24 = some (4, true) := by kernel_rfl
@[go_sem] theorem bool_3 : boolT Try.prog 3 = false := by kernel_rfl
@[go_sem] theorem bool_29 : boolT Try.prog 29 = false := by kernel_rfl
@[go_sem] theorem kind_35 : kindT Try.prog 35 = some (3, true) := by kernel_rfl
@[go_sem] theorem len_41 : lenT Try.prog 41 = 2 := by kernel_rfl
@[go_sem] theorem arr_41 : arrT Try.prog 41 = none := by kernel_rfl
@[go_sem] theorem elem_41 : elemT Try.prog 41 = some (43, 3) := by kernel_rfl
@[go_sem] theorem field_43_2 : fieldT Try.prog 43 2 = some (2, 1, false) := by kernel_rfl
@[go_sem] theorem kind_9 : kindT Try.prog 9 = some (1, false) := by kernel_rfl
@[go_sem] theorem len_9 : lenT Try.prog 9 = 1 := by kernel_rfl
@[go_sem] theorem field_35_1 : fieldT Try.prog 35 1 = some (1, 1, false) := by kernel_rfl
@[go_sem] theorem kind_25 : kindT Try.prog 25 = some (1, false) := by kernel_rfl
@[go_sem] theorem len_25 : lenT Try.prog 25 = 2 := by kernel_rfl
@[go_sem] theorem arr_25 : arrT Try.prog 25 = none := by kernel_rfl
@[go_sem] theorem elem_25 : elemT Try.prog 25 = some (48, 2) := by kernel_rfl
@[go_sem] theorem field_48_0 : fieldT Try.prog 48 0 = some (0, 1, false) := by kernel_rfl
@[go_sem] theorem elem_46 : elemT Try.prog 46 = some (9, 1) := by kernel_rfl
@[go_sem] theorem zero_9 : zeroT Try.prog 9 = some (.d (.str [])) := by kernel_rfl
@[go_sem] theorem room_9_1 : aroomT Try.prog 9 1 = true := by kernel_rfl
@[go_sem] theorem len_46 : lenT Try.prog 46 = 2 := by kernel_rfl
@[go_sem] theorem str_46 : strT Try.prog 46 = false := by kernel_rfl
@[go_sem] theorem arr_46 : arrT Try.prog 46 = none := by kernel_rfl
@[go_sem] theorem field_35_2 : fieldT Try.prog 35 2 = some (2, 1, false) := by kernel_rfl
@[go_sem] theorem kind_33 : kindT Try.prog 33 = some (1, false) := by kernel_rfl
@[go_sem] theorem zero_35 : zeroT Try.prog 35 = some (.agg [.d (.str []), .nilS, .nilS]) := by kernel_rfl
@[go_sem] theorem bool_4 : boolT Try.prog 4 = true := by kernel_rfl
@[go_sem] theorem bool_9 : boolT Try.prog 9 = false := by kernel_rfl
@[go_sem] theorem field_48_1 : fieldT Try.prog 48 1 = some (1, 1, false) := by kernel_rfl
@[go_sem] theorem kind_3 : kindT Try.prog 3 = some (1, false) := by kernel_rfl
@[go_sem] theorem room_48_2 : aroomT Try.prog 48 2 = true := by kernel_rfl
@[go_sem] theorem len_56 : lenT Try.prog 56 = 2 := by kernel_rfl
@[go_sem] theorem arr_56 : arrT Try.prog 56 = none := by kernel_rfl
@[go_sem] theorem elem_56 : elemT Try.prog 56 = some (61, 20) := by kernel_rfl
@[go_sem] theorem field_61_1 : fieldT Try.prog 61 1 = some (1, 13, true) := by kernel_rfl
@[go_sem] theorem kind_59 : kindT Try.prog 59 = some (13, true) := by kernel_rfl
@[go_sem] theorem zero_59 : zeroT Try.prog 59 = some (.agg [.d (.int .i64 0), .d (.str []), .d (.int .i64 0), .d (.int .i64 0), .d (.int .i64 0), .d (.str []), .nilS, .d (.int .i64 0), .d (.int .i64 0), .d (.str []), .nilS, .nilS, .nilS]) := by kernel_rfl
@[go_sem] theorem field_59_0 : fieldT Try.prog 59 0 = some (0, 1, false) := by kernel_rfl
@[go_sem] theorem field_59_1 : fieldT Try.prog 59 1 = some (1, 1, false) := by kernel_rfl
@[go_sem] theorem field_59_3 : fieldT Try.prog 59 3 = some (3, 4, true) := by kernel_rfl
@[go_sem] theorem field_59_4 : fieldT Try.prog 59 4 = some (7, 4, true) := by kernel_rfl
@[go_sem] theorem elem_22 : elemT Try.prog 22 = some (24, 4) := by kernel_rfl
@[go_sem] theorem zero_24 : zeroT Try.prog 24 = some (.agg [.d (.int .i64 0), .d (.int .i64 0), .d (.str []), .nilS]) := by kernel_rfl
@[go_sem] theorem fields_24 : fieldsT Try.prog 24 = some [(0, 1), (1, 1), (2, 1), (3, 1)] := by kernel_rfl
@[go_sem] theorem zero_48 : zeroT Try.prog 48 = some (.agg [.d (.str []), .d (.int .i64 0)]) := by kernel_rfl
@[go_sem] theorem fields_48 : fieldsT Try.prog 48 = some [(0, 1), (1, 1)] := by kernel_rfl
@[go_sem] theorem fields_59 : fieldsT Try.prog 59 = some [(0, 1), (1, 1), (2, 1), (3, 4), (7, 4), (11, 1), (12, 1)] := by kernel_rfl
@[go_sem] theorem elem_33 : elemT Try.prog 33 = some (59, 13) := by kernel_rfl
@[go_sem] theorem fields_35 : fieldsT Try.prog 35 = some [(0, 1), (1, 1), (2, 1)] := by kernel_rfl
@[go_sem] theorem zero_43 : zeroT Try.prog 43 = some (.agg [.d (.int .i64 0), .d (.int .i64 0), .d (.str [])]) := by kernel_rfl
@[go_sem] theorem fields_43 : fieldsT Try.prog 43 = some [(0, 1), (1, 1), (2, 1)] := by kernel_rfl
@[go_sem] theorem map_67 : mapT Try.prog 67 = some (2, 3) := by kernel_rfl
@[go_sem] theorem zero_3 : zeroT Try.prog 3 = some (.d (.int .i64 0)) := by kernel_rfl
@[go_sem] theorem kind_48 : kindT Try.prog 48 = some (2, true) := by kernel_rfl
@[go_sem] theorem field_35_0 : fieldT Try.prog 35 0 = some (0, 1, false) := by kernel_rfl
@[go_sem] theorem zero_74 : zeroT Try.prog 74 = some (.agg [.nilS, .nilS]) := by kernel_rfl
@[go_sem] theorem kind_74 : kindT Try.prog 74 = some (2, true) := by kernel_rfl
@[go_sem] theorem bool_48 : boolT Try.prog 48 = false := by kernel_rfl
@[go_sem] theorem flat_48 : flatT Try.prog 48 = some [2, 1] := by kernel_rfl
@[go_sem] theorem field_61_0 : fieldT Try.prog 61 0 = some (0, 1, false) := by kernel_rfl
@[go_sem] theorem kind_4 : kindT Try.prog 4 = some (1, false) := by kernel_rfl
@[go_sem] theorem kind_43 : kindT Try.prog 43 = some (3, true) := by kernel_rfl
@[go_sem] theorem field_43_0 : fieldT Try.prog 43 0 = some (0, 1, false) := by kernel_rfl
@[go_sem] theorem field_43_1 : fieldT Try.prog 43 1 = some (1, 1, false) := by kernel_rfl
@[go_sem] theorem kind_2 : kindT Try.prog 2 = some (1, false) := by kernel_rfl
@[go_sem] theorem bool_2 : boolT Try.prog 2 = false := by kernel_rfl
@[go_sem] theorem len_33 : lenT Try.prog 33 = 2 := by kernel_rfl
@[go_sem] theorem arr_33 : arrT Try.prog 33 = none := by kernel_rfl
@[go_sem] theorem field_59_5 : fieldT Try.prog 59 5 = some (11, 1, false) := by kernel_rfl
@[go_sem] theorem field_59_6 : fieldT Try.prog 59 6 = some (12, 1, false) := by kernel_rfl
@[go_sem] theorem field_24_2 : fieldT Try.prog 24 2 = some (2, 1, false) := by kernel_rfl
@[go_sem] theorem field_24_3 : fieldT Try.prog 24 3 = some (3, 1, false) := by kernel_rfl
@[go_sem] theorem kind_22 : kindT Try.prog 22 = some (1, false) := by kernel_rfl
@[go_sem] theorem len_22 : lenT Try.prog 22 = 2 := by kernel_rfl
@[go_sem] theorem arr_22 : arrT Try.prog 22 = none := by kernel_rfl
@[go_sem] theorem field_24_0 : fieldT Try.prog 24 0 = some (0, 1, false) := by kernel_rfl
@[go_sem] theorem elem_86 : elemT Try.prog 86 = some (3, 1) := by kernel_rfl
@[go_sem] theorem room_3_1 : aroomT Try.prog 3 1 = true := by kernel_rfl
@[go_sem] theorem arr_86 : arrT Try.prog 86 = none := by kernel_rfl
@[go_sem] theorem len_86 : lenT Try.prog 86 = 2 := by kernel_rfl
@[go_sem] theorem map_93 : mapT Try.prog 93 = some (2, 4) := by kernel_rfl
@[go_sem] theorem zero_4 : zeroT Try.prog 4 = some (.d (.bool false)) := by kernel_rfl
@[go_sem] theorem zero_95 : zeroT Try.prog 95 = some (.agg [.nilM, .nilM, .nilM]) := by kernel_rfl
@[go_sem] theorem fields_95 : fieldsT Try.prog 95 = some [(0, 1), (1, 1), (2, 1)] := by kernel_rfl
@[go_sem] theorem field_95_2 : fieldT Try.prog 95 2 = some (2, 1, false) := by kernel_rfl
@[go_sem] theorem kind_67 : kindT Try.prog 67 = some (1, false) := by kernel_rfl
@[go_sem] theorem field_61_2 : fieldT Try.prog 61 2 = some (14, 1, false) := by kernel_rfl
@[go_sem] theorem field_74_0 : fieldT Try.prog 74 0 = some (0, 1, false) := by kernel_rfl
@[go_sem] theorem field_74_1 : fieldT Try.prog 74 1 = some (1, 1, false) := by kernel_rfl
@[go_sem] theorem kind_46 : kindT Try.prog 46 = some (1, false) := by kernel_rfl
@[go_sem] theorem zero_46 : zeroT Try.prog 46 = some (.nilS) := by kernel_rfl
@[go_sem] theorem str_9 : strT Try.prog 9 = true := by kernel_rfl
@[go_sem] theorem arr_9 : arrT Try.prog 9 = none := by kernel_rfl
@[go_sem] theorem bool_5 : boolT Try.prog 5 = false := by kernel_rfl
@[go_sem] theorem field_61_3 : fieldT Try.prog 61 3 = some (15, 4, true) := by kernel_rfl
@[go_sem] theorem room_59_13 : aroomT Try.prog 59 13 = true := by kernel_rfl
@[go_sem] theorem zero_61 : zeroT Try.prog 61 = some (.agg [.d (.bool false), .d (.int .i64 0), .d (.str []), .d (.int .i64 0), .d (.int .i64 0), .d (.int .i64 0), .d (.str []), .nilS, .d (.int .i64 0), .d (.int .i64 0), .d (.str []), .nilS, .nilS, .nilS, .d (.int .i64 0), .d (.int .i64 0), .d (.int .i64 0), .d (.str []), .nilS, .d (.bool false)]) := by kernel_rfl
@[go_sem] theorem fields_61 : fieldsT Try.prog 61 = some [(0, 1), (1, 13), (14, 1), (15, 4), (19, 1)] := by kernel_rfl
@[go_sem] theorem room_61_20 : aroomT Try.prog 61 20 = true := by kernel_rfl
@[go_sem] theorem zero_29 : zeroT Try.prog 29 = some (.d (.int .i64 0)) := by kernel_rfl
@[go_sem] theorem kind_29 : kindT Try.prog 29 = some (1, false) := by kernel_rfl
@[go_sem] theorem field_95_0 : fieldT Try.prog 95 0 = some (0, 1, false) := by kernel_rfl
@[go_sem] theorem field_59_2 : fieldT Try.prog 59 2 = some (2, 1, false) := by kernel_rfl
@[go_sem] theorem zero_117 : zeroT Try.prog 117 = some (.agg [.d (.int .i64 0), .nilF, .nilF]) := by kernel_rfl
@[go_sem] theorem fields_117 : fieldsT Try.prog 117 = some [(0, 1), (1, 1), (2, 1)] := by kernel_rfl
@[go_sem] theorem field_117_0 : fieldT Try.prog 117 0 = some (0, 1, false) := by kernel_rfl
@[go_sem] theorem field_24_1 : fieldT Try.prog 24 1 = some (1, 1, false) := by kernel_rfl
@[go_sem] theorem room_24_4 : aroomT Try.prog 24 4 = true := by kernel_rfl
@[go_sem] theorem conv_5_21 : convT Try.prog 5 21 = some .i32 := by kernel_rfl
@[go_sem] theorem str_5 : strT Try.prog 5 = false := by kernel_rfl
@[go_sem] theorem str_21 : strT Try.prog 21 = false := by kernel_rfl
@[go_sem] theorem str_25 : strT Try.prog 25 = false := by kernel_rfl
@[go_sem] theorem zero_125 : zeroT Try.prog 125 = some (.agg [.d (.bool false), .d (.bool false), .d (.bool false), .d (.bool false), .d (.bool false), .d (.bool false)]) := by kernel_rfl
@[go_sem] theorem kind_125 : kindT Try.prog 125 = some (6, true) := by kernel_rfl
@[go_sem] theorem field_125_0 : fieldT Try.prog 125 0 = some (0, 1, false) := by kernel_rfl
@[go_sem] theorem field_125_1 : fieldT Try.prog 125 1 = some (1, 1, false) := by kernel_rfl
@[go_sem] theorem field_125_2 : fieldT Try.prog 125 2 = some (2, 1, false) := by kernel_rfl
@[go_sem] theorem field_95_1 : fieldT Try.prog 95 1 = some (1, 1, false) := by kernel_rfl
@[go_sem] theorem kind_93 : kindT Try.prog 93 = some (1, false) := by kernel_rfl
@[go_sem] theorem field_117_1 : fieldT Try.prog 117 1 = some (1, 1, false) := by kernel_rfl
@[go_sem] theorem kind_104 : kindT Try.prog 104 = some (1, false) := by kernel_rfl
@[go_sem] theorem bool_21 : boolT Try.prog 21 = false := by kernel_rfl
@[go_sem] theorem fields_125 : fieldsT Try.prog 125 = some [(0, 1), (1, 1), (2, 1), (3, 1), (4, 1), (5, 1)] := by kernel_rfl
@[go_sem] theorem field_125_3 : fieldT Try.prog 125 3 = some (3, 1, false) := by kernel_rfl
@[go_sem] theorem field_125_4 : fieldT Try.prog 125 4 = some (4, 1, false) := by kernel_rfl
@[go_sem] theorem field_125_5 : fieldT Try.prog 125 5 = some (5, 1, false) := by kernel_rfl
@[go_sem] theorem field_117_2 : fieldT Try.prog 117 2 = some (2, 1, false) := by kernel_rfl
@[go_sem] theorem kind_105 : kindT Try.prog 105 = some (1, false) := by kernel_rfl
end Go.Proofs.Ythjmecciefihmaa
