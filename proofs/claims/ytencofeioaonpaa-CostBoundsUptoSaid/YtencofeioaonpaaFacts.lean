/- Facts of this program that the walks look up: which slots live on, which escape, how wide the types are. -/
import Derived.Test.YtencofeioaonpaaProg
import Derived.KernelRfl
import Derived.Test.YtencofeioaonpaaGenC
import Derived.Test.YtencofeioaonpaaGenB
set_option linter.unusedVariables false
set_option linter.unusedSimpArgs false
set_option linter.all false
set_option linter.deprecated false
set_option linter.unusedVariables false
set_option linter.all false
namespace Go.Proofs.Ytencofeioaonpaa
open Go.Abs
def escT (f : Nat) : List Nat := bif Nat.blt f 51 then (bif Nat.blt f 25 then (bif Nat.blt f 12 then ([]) else (bif Nat.blt f 18 then ([]) else (bif Nat.blt f 21 then ([]) else (bif Nat.blt f 23 then ([]) else (bif Nat.blt f 24 then ([3]) else ([])))))) else (bif Nat.blt f 38 then (bif Nat.blt f 31 then (bif Nat.blt f 28 then (bif Nat.blt f 26 then ([]) else (bif Nat.blt f 27 then ([3]) else ([3, 5]))) else ([])) else (bif Nat.blt f 34 then ([]) else (bif Nat.blt f 36 then ([]) else (bif Nat.blt f 37 then ([21]) else ([3]))))) else (bif Nat.blt f 44 then (bif Nat.blt f 41 then (bif Nat.blt f 39 then ([1]) else (bif Nat.blt f 40 then ([]) else ([4]))) else (bif Nat.blt f 42 then ([11]) else ([]))) else ([])))) else (bif Nat.blt f 76 then (bif Nat.blt f 63 then (bif Nat.blt f 57 then (bif Nat.blt f 54 then (bif Nat.blt f 52 then ([]) else (bif Nat.blt f 53 then ([3]) else ([]))) else ([])) else ([])) else ([])) else ([]))
def liveL (f : Nat) : List (Nat × List Nat) := bif Nat.blt f 51 then (bif Nat.blt f 25 then (bif Nat.blt f 12 then (bif Nat.blt f 6 then (bif Nat.blt f 3 then (bif Nat.blt f 1 then ([]) else (bif Nat.blt f 2 then ([]) else ([(0, [])]))) else (bif Nat.blt f 4 then ([(0, [0, 1]), (1, [2, 1]), (2, []), (3, [1, 2]), (4, [2, 5]), (5, [5, 6])]) else (bif Nat.blt f 5 then ([(0, [0, 2, 1]), (1, [3, 2, 1]), (2, []), (3, [1, 2, 3]), (4, [2, 3, 7]), (5, [7]), (6, [3, 7, 2]), (7, [3, 7, 8, 2]), (8, [10, 8, 2, 9])]) else ([(0, [0, 2, 1]), (1, [3, 2, 1]), (2, []), (3, [1, 2, 3]), (4, [8, 3, 7]), (5, []), (6, [7, 3])])))) else (bif Nat.blt f 9 then (bif Nat.blt f 7 then ([(0, [0, 1]), (1, [1, 2]), (2, []), (3, [2, 1]), (4, [1, 2, 5]), (6, [1, 2, 5]), (7, []), (5, [5, 2, 1]), (8, [2, 1])]) else (bif Nat.blt f 8 then ([(0, [0]), (1, [1]), (2, [1, 3]), (3, [3]), (4, [1]), (5, [4]), (7, [4]), (8, [4]), (9, [4]), (10, []), (6, []), (11, [])]) else ([(0, []), (1, []), (2, [1]), (3, [2]), (4, [3])]))) else (bif Nat.blt f 10 then ([(0, [0, 1]), (1, [2, 1, 4]), (2, [5, 2, 1, 4]), (4, [5, 2, 1, 4]), (5, [6, 5, 2, 1, 4]), (6, [7, 6, 5, 2, 1, 4]), (7, [7, 6, 5, 2, 1, 4]), (8, [7, 6, 5, 2, 1, 4]), (9, [7, 6, 5, 2, 1, 4]), (10, [6, 5, 2, 1, 4]), (11, [6, 5, 2, 1, 4]), (12, [61, 6, 5, 2, 1, 4]), (17, [61, 2, 6, 5, 1, 4]), (18, [2, 6, 5, 1, 4]), (19, [2, 6, 5, 1, 4, 8]), (20, [9, 2, 6, 5, 1, 4, 8]), (22, [9, 2, 6, 5, 1, 4, 8]), (23, [9, 2, 6, 5, 1, 4, 8]), (21, [9, 2, 6, 5, 1, 4, 8]), (13, [6, 5, 2, 1, 4]), (14, [8, 6, 5, 2, 1, 4]), (16, [6, 5, 2, 1, 4]), (15, [6, 5, 2, 1, 4]), (3, [5, 2, 1, 4]), (24, [2, 4])]) else (bif Nat.blt f 11 then ([(0, [0]), (1, [1, 2])]) else ([(0, [0]), (1, [1]), (2, [1, 3]), (3, [3]), (4, [1]), (5, [6]), (6, []), (7, [])]))))) else (bif Nat.blt f 18 then (bif Nat.blt f 15 then (bif Nat.blt f 13 then ([(0, [0, 1, 2]), (1, [1, 2, 3, 6]), (3, [3, 2, 1, 6]), (5, [1, 2, 3, 6]), (7, [3, 2, 1, 6]), (8, [6]), (6, [6]), (4, [6]), (2, [6]), (9, [1, 2, 3, 6]), (10, [3, 8, 6]), (11, [3, 9, 8, 6]), (12, [47, 9, 8, 45, 6, 46]), (13, [47, 9, 8, 45, 6, 46]), (14, [11, 47, 9, 8, 45, 6, 46]), (15, [47, 9, 8, 45, 6, 46]), (16, [9, 6])]) else (bif Nat.blt f 14 then ([(0, [1, 0]), (1, [1, 0]), (2, [1, 0, 5]), (3, [5, 6, 1, 0]), (5, [5, 6, 1, 0]), (6, [5, 6, 1, 0]), (7, [5, 6, 1, 0]), (8, [5, 6, 1, 0]), (9, [5, 6, 1, 0]), (4, [6, 1, 0, 5]), (10, [5])]) else ([(0, [0]), (1, [0, 2]), (2, [0, 3, 2]), (3, [8, 3, 6, 2, 7]), (4, [8, 3, 6, 2, 7]), (5, [5, 8, 3, 6, 2, 7]), (6, [8, 3, 6, 2, 7]), (7, [3, 2])]))) else ([(0, [0]), (1, [1])])) else (bif Nat.blt f 21 then (bif Nat.blt f 19 then ([(0, [0]), (1, [1])]) else (bif Nat.blt f 20 then ([(0, [0]), (1, [1, 2]), (2, [1, 3, 2]), (3, [1, 3, 2]), (4, [1, 3, 2]), (5, [3, 2]), (6, [3, 2])]) else ([(0, [0, 1]), (1, [1, 2, 5]), (2, [2, 5]), (3, [1, 2, 5]), (4, [6, 1, 2, 5]), (5, [6, 1, 2, 5]), (6, [6, 2, 5]), (7, [6, 2, 5])]))) else (bif Nat.blt f 23 then (bif Nat.blt f 22 then ([(0, [0]), (1, [1]), (2, [4])]) else ([(0, [0]), (1, [1, 2, 3, 4]), (2, [2, 3, 4]), (3, [1, 2, 3, 4]), (4, [1, 2, 3, 4]), (5, [15, 13, 2, 3, 4, 14]), (6, [15, 13, 2, 3, 4, 14]), (7, [7, 15, 13, 2, 3, 4, 14]), (12, [15, 13, 2, 3, 4, 14]), (13, [2, 3, 4])])) else (bif Nat.blt f 24 then ([(0, [0]), (1, [1]), (2, []), (3, [1]), (4, [1, 3]), (5, [3]), (6, [1, 3]), (7, [4, 3]), (8, []), (9, [3])]) else ([(0, [0]), (1, [0])])))))) else (bif Nat.blt f 38 then (bif Nat.blt f 31 then (bif Nat.blt f 28 then (bif Nat.blt f 26 then ([(0, [0, 1]), (1, [0, 1])]) else (bif Nat.blt f 27 then ([(0, [0]), (1, [1]), (2, [3, 1]), (3, [9, 3, 7, 1, 8]), (4, [9, 3, 7, 1, 8]), (5, [5, 9, 3, 7, 1, 8]), (6, [9, 3, 7, 1, 8]), (7, [1, 3]), (8, [3])]) else ([(0, [0, 1]), (1, [2, 3]), (2, [2, 3, 5]), (3, [5])]))) else (bif Nat.blt f 29 then ([(0, [0, 1]), (1, [1, 2]), (2, [1, 5, 2]), (3, [5, 10, 2, 8, 9]), (4, [5, 10, 2, 8, 9]), (5, [5, 7, 10, 2, 8, 9]), (6, [5, 7, 10, 2, 8, 9]), (7, [5, 7, 10, 2, 8, 9]), (8, [5, 7, 10, 2, 8, 9]), (9, [10, 5, 2, 8, 9]), (10, [5])]) else (bif Nat.blt f 30 then ([(0, [0, 1]), (1, [1, 2]), (2, [2]), (3, [1])]) else ([(0, [0, 1]), (1, [1, 2]), (2, [5, 1, 2]), (3, [5, 6, 1, 2]), (5, [5, 6, 1, 2]), (4, [6, 5, 1, 2]), (6, [5])])))) else (bif Nat.blt f 34 then (bif Nat.blt f 32 then ([(0, [0, 1]), (1, [2, 3, 4]), (2, [6, 2, 3, 4]), (3, [6, 2, 3, 4]), (4, [5, 6, 2, 3, 4]), (5, [6, 2, 3, 4]), (6, [2, 4])]) else (bif Nat.blt f 33 then ([(0, [0]), (1, [1, 2]), (2, [1, 3, 2]), (3, [1, 3, 2]), (4, [1, 3, 2]), (5, [1, 3, 2]), (6, [13, 1, 3, 2]), (9, [13, 1, 3, 2]), (11, [1, 13, 3, 2]), (13, [13, 3, 1, 2]), (15, [13, 3, 1, 2]), (16, [3, 1, 2]), (17, [3, 1, 2]), (18, [3, 1, 2]), (14, [3, 1, 2]), (12, [3, 2]), (10, [3, 2]), (7, [1, 3, 2]), (8, [3, 2]), (19, [3, 2])]) else ([(0, [0, 1]), (1, [1, 2]), (2, []), (3, [2, 1])]))) else (bif Nat.blt f 36 then (bif Nat.blt f 35 then ([(0, [0]), (1, [0])]) else ([(0, [0]), (1, [1]), (2, [3, 1]), (3, [1]), (4, [1, 3]), (5, [3, 4, 1]), (7, [3, 4, 1]), (6, [4, 1, 3]), (8, [3])])) else (bif Nat.blt f 37 then ([(0, [0]), (1, [1]), (2, [1, 4]), (3, [4]), (4, [1]), (5, [5, 1]), (6, [24, 1, 23, 5, 25]), (7, [24, 1, 23, 5, 25]), (8, [24, 1, 23, 5, 25, 7]), (9, []), (10, [7, 25, 5, 23, 1, 24]), (11, [25, 5, 23, 1, 24]), (12, [1, 5]), (13, [8, 1, 5]), (14, [42, 5, 1, 41, 8, 43]), (15, [42, 5, 1, 41, 8, 43]), (16, [42, 5, 1, 41, 8, 43, 10]), (17, []), (18, [10, 43, 8, 41, 1, 5, 42]), (19, [43, 8, 41, 1, 5, 42]), (20, [1, 5]), (21, [5, 11])]) else ([(0, [0]), (1, [1]), (2, [1, 3]), (3, [3])]))))) else (bif Nat.blt f 44 then (bif Nat.blt f 41 then (bif Nat.blt f 39 then ([(0, [0]), (1, [1])]) else (bif Nat.blt f 40 then ([(0, [0]), (1, [0])]) else ([(0, [0]), (1, [0]), (2, []), (3, [0]), (4, [9, 8, 0, 10]), (5, [9, 8, 0, 10]), (6, [3, 4, 9, 8, 0, 10]), (8, [10, 0, 8, 9, 4, 3]), (10, [3, 4, 9, 8, 0, 10]), (11, []), (9, []), (7, []), (12, [10, 0, 8, 9]), (13, [])]))) else (bif Nat.blt f 42 then ([(0, [0, 1, 2]), (1, [1, 2, 3]), (2, [3, 7]), (3, [7])]) else (bif Nat.blt f 43 then ([(0, [0, 1, 2]), (1, [3, 1, 2]), (2, [3, 1, 2])]) else ([(0, [0, 1]), (1, [1, 2]), (2, [6, 1, 2, 5]), (3, []), (4, [5, 2, 1]), (5, []), (6, [1, 2, 5]), (7, [1, 2, 5]), (8, [1, 2, 5, 7]), (9, [7]), (10, [5, 2, 1]), (11, [2, 1]), (12, [1, 8]), (13, [8]), (14, [1]), (15, []), (16, [])])))) else (bif Nat.blt f 47 then (bif Nat.blt f 45 then ([(0, [0])]) else (bif Nat.blt f 46 then ([(0, [0]), (1, [0])]) else ([(0, [0]), (1, [0]), (2, [6, 0]), (3, [7, 6, 0]), (4, [4, 6, 0, 3]), (5, [3]), (6, [0])]))) else (bif Nat.blt f 49 then (bif Nat.blt f 48 then ([(0, [0]), (1, [0]), (2, [3]), (3, [3]), (4, [3]), (5, [3]), (6, [3]), (7, [3]), (8, [3]), (9, [3]), (10, [3]), (11, [3]), (12, [3]), (13, [3]), (14, [3]), (15, [3]), (16, [3]), (17, [3]), (18, [3]), (19, [3]), (20, [3]), (21, [3]), (22, [3]), (23, [3]), (24, [3]), (25, [3]), (26, [3]), (27, []), (28, [])]) else ([(0, [0, 1]), (1, [0, 1]), (2, [7, 1, 0, 8]), (3, [7, 1, 0, 8]), (4, [7, 1, 0, 8, 5]), (5, [5]), (6, [8, 0, 1, 7]), (7, [])])) else (bif Nat.blt f 50 then ([(0, [0, 2]), (1, [3, 2]), (2, [3, 2])]) else ([(0, [0, 3, 2]), (1, [4, 3, 2])]))))))) else (bif Nat.blt f 76 then (bif Nat.blt f 63 then (bif Nat.blt f 57 then (bif Nat.blt f 54 then (bif Nat.blt f 52 then ([(0, [0, 2, 1]), (1, [3, 2, 1])]) else (bif Nat.blt f 53 then ([(0, [0, 1]), (1, [2, 3])]) else ([(0, [0, 1]), (1, [3, 2, 4]), (2, [5, 3, 2, 4]), (3, [5, 3, 2, 4]), (4, [5, 3, 2, 4]), (5, [5, 3, 2, 4]), (6, [21, 3, 2, 19, 4, 20]), (7, [21, 3, 2, 19, 4, 20]), (8, [7, 21, 3, 2, 19, 4, 20]), (9, [21, 3, 2, 19, 4, 20]), (10, [3, 4])]))) else (bif Nat.blt f 55 then ([(0, [0]), (1, [1]), (2, [3, 1]), (3, [7, 3, 1]), (4, [7, 3, 1]), (5, [7, 3, 1]), (6, [1]), (7, [1, 3]), (8, [3, 15, 13, 14]), (9, [3, 15, 13, 14]), (10, [3, 5, 15, 13, 14]), (11, [15, 3, 13, 14]), (12, [3])]) else (bif Nat.blt f 56 then ([(0, [0, 1]), (1, [2, 3, 4]), (2, [6, 2, 3, 4]), (3, [6, 2, 3, 4]), (4, [5, 6, 2, 3, 4]), (5, [6, 2, 3, 4]), (6, [2, 4])]) else ([(0, [0, 1]), (1, [2, 1, 4]), (2, [6, 2, 1, 4]), (3, [6, 2, 1, 4]), (4, [5, 6, 2, 1, 4]), (5, [6, 2, 1, 4]), (6, [2, 4])])))) else (bif Nat.blt f 60 then (bif Nat.blt f 58 then ([(0, [0, 1, 2]), (1, [0, 1, 2])]) else (bif Nat.blt f 59 then ([(0, [0, 1]), (1, [0, 1]), (2, [11, 1, 10, 0, 12]), (3, [11, 1, 10, 0, 12]), (4, [6, 11, 1, 10, 0, 12]), (5, [11, 1, 10, 0, 12, 7]), (6, [7]), (7, [12, 0, 10, 1, 11]), (8, [1, 0]), (9, [25, 0, 23, 24]), (10, [25, 0, 23, 24]), (11, [9, 25, 0, 23, 24]), (12, [9, 25, 0, 23, 24]), (13, [25, 0, 23, 24]), (14, [])]) else ([(0, [0])]))) else (bif Nat.blt f 61 then ([(0, [0, 1]), (1, [2, 1])]) else (bif Nat.blt f 62 then ([(0, [0]), (1, [1, 2]), (2, [3, 1, 2]), (3, [3, 1, 2]), (4, [11, 1, 9, 2, 10]), (5, [11, 1, 9, 2, 10]), (6, [5, 11, 1, 9, 2, 10]), (7, [11, 1, 9, 2, 10]), (8, [1, 2])]) else ([(0, [1, 0])]))))) else (bif Nat.blt f 69 then (bif Nat.blt f 66 then (bif Nat.blt f 64 then ([(0, [0, 1]), (1, [1, 2]), (2, []), (3, [2, 1]), (4, [13, 12, 1, 14]), (5, [13, 12, 1, 14]), (6, [6, 13, 12, 1, 14]), (7, []), (8, [14, 1, 12, 13]), (9, [])]) else (bif Nat.blt f 65 then ([(0, [0, 1]), (1, [0, 1])]) else ([(0, [0, 1]), (1, [2, 1])]))) else (bif Nat.blt f 67 then ([(0, [1, 0, 2]), (1, [9, 8, 2, 0, 10]), (2, [9, 8, 2, 0, 10]), (3, [9, 8, 2, 0, 10, 7]), (4, [7, 10, 0, 2, 8, 9]), (5, [7, 10, 0, 2, 8, 9]), (6, [7, 10, 0, 2, 8, 9]), (7, [7, 10, 0, 2, 8, 9]), (8, [7, 10, 0, 2, 8, 9]), (9, [7, 10, 0, 2, 8, 9]), (10, [10, 0, 2, 8, 9])]) else (bif Nat.blt f 68 then ([(0, [0]), (1, [0, 2]), (2, [4, 2]), (3, [4, 2]), (5, [4, 2]), (7, [4, 2]), (8, [4, 2]), (10, [4, 2]), (12, [4, 2]), (14, [4, 2]), (15, [2]), (13, [2]), (11, [2]), (9, [2]), (6, [2]), (4, [2]), (16, [2])]) else ([(0, [0, 1]), (1, [3, 2]), (2, []), (3, [2]), (4, [68, 2]), (6, [68, 2]), (7, [2]), (5, [2]), (8, [])])))) else (bif Nat.blt f 72 then (bif Nat.blt f 70 then ([(0, [0]), (1, [1])]) else (bif Nat.blt f 71 then ([(0, [0, 1]), (1, [0, 1])]) else ([(0, [0, 1]), (1, [2, 1])]))) else (bif Nat.blt f 74 then (bif Nat.blt f 73 then ([(0, [1, 0]), (1, [3, 0]), (2, [5, 3, 0, 6, 7]), (3, [7]), (4, [6, 0, 3, 5]), (5, [23, 6, 0, 3, 5]), (7, [6, 23, 5, 3, 0]), (15, [3, 0, 23, 5, 6]), (18, [6, 23, 0, 3, 5]), (21, [3, 0, 23, 6, 5]), (24, [6, 23, 5, 0, 3]), (31, [23, 5, 6, 3, 0]), (32, [5, 6, 3, 0]), (33, []), (34, [0, 3]), (35, [0, 3]), (36, [0, 3]), (37, [0, 3, 11]), (38, [11]), (25, [5, 0, 3]), (26, []), (27, [3, 0]), (28, [3, 0, 10]), (29, [10]), (30, [0, 3]), (22, [5]), (23, []), (19, [5]), (20, []), (16, [5, 6]), (17, []), (8, [5, 3, 0]), (9, [9, 8, 5, 3, 0]), (11, [0, 3, 5, 8]), (13, [8, 5]), (14, []), (12, []), (10, []), (6, [0, 3, 5]), (39, [])]) else ([(0, [0, 1]), (1, [0, 1]), (2, [7, 1, 0, 8]), (3, [7, 1, 0, 8]), (4, [7, 1, 0, 8, 5]), (5, [5]), (6, [8, 0, 1, 7]), (7, [])])) else (bif Nat.blt f 75 then ([(0, [1, 0]), (1, [3, 0]), (2, [0, 3]), (3, [0, 3])]) else ([(0, [0]), (1, [1])])))))) else (bif Nat.blt f 89 then (bif Nat.blt f 82 then (bif Nat.blt f 79 then (bif Nat.blt f 77 then ([(0, [0, 1]), (1, [1, 2]), (2, [1, 2, 5]), (3, [5]), (4, [2, 1]), (5, [17, 16, 1, 18]), (6, [17, 16, 1, 18]), (7, [7, 17, 16, 1, 18]), (8, [17, 16, 1, 18, 8]), (9, [8]), (10, [18, 1, 16, 17]), (11, [])]) else (bif Nat.blt f 78 then ([(0, [0, 1]), (1, [0, 1]), (2, [7, 1, 0, 8]), (3, [7, 1, 0, 8]), (4, [7, 1, 0, 8, 5]), (5, [5]), (6, [8, 0, 1, 7]), (7, [])]) else ([(0, [1, 0]), (1, [0, 3, 5]), (2, []), (3, [5, 3, 0]), (4, [6, 5, 3, 0, 4]), (5, [3, 0, 4]), (6, [4, 5, 6])]))) else (bif Nat.blt f 80 then ([(0, [1, 0]), (1, [0, 3]), (2, [3, 0]), (3, [3, 0]), (4, [21, 0, 19, 20]), (5, [21, 0, 19, 20]), (6, [5, 21, 0, 19, 20]), (7, [21, 0, 19, 20])]) else (bif Nat.blt f 81 then ([(0, [0, 1]), (1, [2, 1]), (2, [2, 5, 1]), (4, [1, 5, 2]), (6, [2, 5, 1]), (8, [1]), (9, []), (7, []), (5, []), (3, []), (10, [])]) else ([(0, [0, 1]), (1, [1, 2]), (2, [1, 2]), (3, [7, 6]), (5, [6]), (6, []), (4, []), (7, [6]), (8, [1, 2]), (9, [8, 1, 2]), (10, [40, 2, 39, 1, 41, 8]), (11, [40, 2, 39, 1, 41, 8]), (12, [10, 40, 2, 39, 1, 41, 8]), (13, [40, 2, 39, 1, 41, 11, 8, 12]), (14, [12]), (15, [8, 11, 41, 1, 39, 2, 40]), (16, [41, 8, 1, 39, 2, 40]), (17, [2, 8]), (18, [2, 8]), (19, []), (20, []), (21, [2, 8]), (22, [8, 13, 14]), (23, [90, 14, 89, 13, 91]), (24, [90, 14, 89, 13, 91]), (25, [16, 90, 14, 89, 13, 91]), (26, []), (27, [91, 13, 89, 14, 90]), (28, [14])])))) else (bif Nat.blt f 85 then (bif Nat.blt f 83 then ([(0, [0]), (1, [0]), (3, [0]), (5, [0]), (6, []), (4, []), (2, []), (7, [])]) else (bif Nat.blt f 84 then ([(0, [0]), (1, [0]), (2, [0, 3]), (4, [0, 3]), (5, []), (3, [3, 0]), (6, [0])]) else ([(0, [1, 0]), (1, [1, 0])]))) else (bif Nat.blt f 87 then (bif Nat.blt f 86 then ([(0, [0]), (1, [0]), (2, [4]), (3, [4]), (4, [4]), (5, [4]), (6, [4]), (7, [4]), (8, [4]), (9, [4]), (10, [4]), (11, [4]), (13, [4]), (14, [4]), (15, [4]), (17, [4]), (18, [4]), (19, [4]), (21, [4]), (23, [4]), (24, [4]), (25, []), (22, []), (20, []), (16, []), (12, []), (26, [])]) else ([])) else ([])))) else ([])))

def okL : List Nat := [3, 4, 5, 6, 7, 8, 9, 10, 11, 12, 13, 14, 15, 16, 17, 18, 19, 20, 21, 22, 23, 24, 25, 26, 27, 28, 29, 30, 31, 32, 33, 34, 35, 36, 37, 38, 40, 41, 42, 43, 44, 45, 46, 47, 48, 49, 50, 51, 52, 53, 54, 55, 56, 57, 58, 59, 60, 61, 62, 63, 64, 65, 66, 67, 68, 69, 70, 71, 72, 73, 74, 75, 76, 77, 78, 79, 80, 81, 82, 83, 84, 85]


def findL : Nat → List (Nat × List Nat) → Option (List Nat)
  | _, [] => none
  | r, (s, l) :: rest => bif Nat.beq r s then some l else findL r rest
/-- what is left to be known from outside -/
def extL : List Nat := [8, 22]
noncomputable def C : ACtx := { P := Try.prog, esc := escT, own := fun f => [].contains f, live := fun f r => findL r (liveL f), ext := fun f => bif extL.contains f then some failFn else none }
noncomputable def C0 : ACtx := { P := Try.prog, esc := escT, own := fun f => [].contains f, live := fun f r => findL r (liveL f), ext := fun _ => none }
@[go_sem] theorem C_P : C.P = Try.prog := by rfl
@[go_sem] theorem own_3 : C.own 3 = false := by rfl
@[go_sem] theorem own_4 : C.own 4 = false := by rfl
@[go_sem] theorem own_5 : C.own 5 = false := by rfl
@[go_sem] theorem own_6 : C.own 6 = false := by rfl
@[go_sem] theorem own_7 : C.own 7 = false := by rfl
@[go_sem] theorem own_8 : C.own 8 = false := by rfl
@[go_sem] theorem own_9 : C.own 9 = false := by rfl
@[go_sem] theorem own_10 : C.own 10 = false := by rfl
@[go_sem] theorem own_11 : C.own 11 = false := by rfl
@[go_sem] theorem own_12 : C.own 12 = false := by rfl
@[go_sem] theorem own_13 : C.own 13 = false := by rfl
@[go_sem] theorem own_14 : C.own 14 = false := by rfl
@[go_sem] theorem own_15 : C.own 15 = false := by rfl
@[go_sem] theorem own_16 : C.own 16 = false := by rfl
@[go_sem] theorem own_17 : C.own 17 = false := by rfl
@[go_sem] theorem own_18 : C.own 18 = false := by rfl
@[go_sem] theorem own_19 : C.own 19 = false := by rfl
@[go_sem] theorem own_20 : C.own 20 = false := by rfl
@[go_sem] theorem own_21 : C.own 21 = false := by rfl
@[go_sem] theorem own_22 : C.own 22 = false := by rfl
@[go_sem] theorem own_23 : C.own 23 = false := by rfl
@[go_sem] theorem own_24 : C.own 24 = false := by rfl
@[go_sem] theorem own_25 : C.own 25 = false := by rfl
@[go_sem] theorem own_26 : C.own 26 = false := by rfl
@[go_sem] theorem own_27 : C.own 27 = false := by rfl
@[go_sem] theorem own_28 : C.own 28 = false := by rfl
@[go_sem] theorem own_29 : C.own 29 = false := by rfl
@[go_sem] theorem own_30 : C.own 30 = false := by rfl
@[go_sem] theorem own_31 : C.own 31 = false := by rfl
@[go_sem] theorem own_32 : C.own 32 = false := by rfl
@[go_sem] theorem own_33 : C.own 33 = false := by rfl
@[go_sem] theorem own_34 : C.own 34 = false := by rfl
@[go_sem] theorem own_35 : C.own 35 = false := by rfl
@[go_sem] theorem own_36 : C.own 36 = false := by rfl
@[go_sem] theorem own_37 : C.own 37 = false := by rfl
@[go_sem] theorem own_38 : C.own 38 = false := by rfl
@[go_sem] theorem own_40 : C.own 40 = false := by rfl
@[go_sem] theorem own_41 : C.own 41 = false := by rfl
@[go_sem] theorem own_42 : C.own 42 = false := by rfl
@[go_sem] theorem own_43 : C.own 43 = false := by rfl
@[go_sem] theorem own_44 : C.own 44 = false := by rfl
@[go_sem] theorem own_45 : C.own 45 = false := by rfl
@[go_sem] theorem own_46 : C.own 46 = false := by rfl
@[go_sem] theorem own_47 : C.own 47 = false := by rfl
@[go_sem] theorem own_48 : C.own 48 = false := by rfl
@[go_sem] theorem own_49 : C.own 49 = false := by rfl
@[go_sem] theorem own_50 : C.own 50 = false := by rfl
@[go_sem] theorem own_51 : C.own 51 = false := by rfl
@[go_sem] theorem own_52 : C.own 52 = false := by rfl
@[go_sem] theorem own_53 : C.own 53 = false := by rfl
@[go_sem] theorem own_54 : C.own 54 = false := by rfl
@[go_sem] theorem own_55 : C.own 55 = false := by rfl
@[go_sem] theorem own_56 : C.own 56 = false := by rfl
@[go_sem] theorem own_57 : C.own 57 = false := by rfl
@[go_sem] theorem own_58 : C.own 58 = false := by rfl
@[go_sem] theorem own_59 : C.own 59 = false := by rfl
@[go_sem] theorem own_60 : C.own 60 = false := by rfl
@[go_sem] theorem own_61 : C.own 61 = false := by rfl
@[go_sem] theorem own_62 : C.own 62 = false := by rfl
@[go_sem] theorem own_63 : C.own 63 = false := by rfl
@[go_sem] theorem own_64 : C.own 64 = false := by rfl
@[go_sem] theorem own_65 : C.own 65 = false := by rfl
@[go_sem] theorem own_66 : C.own 66 = false := by rfl
@[go_sem] theorem own_67 : C.own 67 = false := by rfl
@[go_sem] theorem own_68 : C.own 68 = false := by rfl
@[go_sem] theorem own_69 : C.own 69 = false := by rfl
@[go_sem] theorem own_70 : C.own 70 = false := by rfl
@[go_sem] theorem own_71 : C.own 71 = false := by rfl
@[go_sem] theorem own_72 : C.own 72 = false := by rfl
@[go_sem] theorem own_73 : C.own 73 = false := by rfl
@[go_sem] theorem own_74 : C.own 74 = false := by rfl
@[go_sem] theorem own_75 : C.own 75 = false := by rfl
@[go_sem] theorem own_76 : C.own 76 = false := by rfl
@[go_sem] theorem own_77 : C.own 77 = false := by rfl
@[go_sem] theorem own_78 : C.own 78 = false := by rfl
@[go_sem] theorem own_79 : C.own 79 = false := by rfl
@[go_sem] theorem own_80 : C.own 80 = false := by rfl
@[go_sem] theorem own_81 : C.own 81 = false := by rfl
@[go_sem] theorem own_82 : C.own 82 = false := by rfl
@[go_sem] theorem own_83 : C.own 83 = false := by rfl
@[go_sem] theorem own_84 : C.own 84 = false := by rfl
@[go_sem] theorem own_85 : C.own 85 = false := by rfl
theorem allOk : okL.all (fnOk Try.prog) = true := by kernel_rfl
theorem okOf : ∀ f, okL.contains f = true → fnOk Try.prog f = true := fun f h => List.all_eq_true.1 allOk f (by simpa using h)
theorem ok (f : FuncId) (h : okL.contains f = true) : fnOk C.P f = true := okOf f h
@[go_sem] theorem esc_3 : C.esc 3 = [] := by kernel_rfl
@[go_sem] theorem live_3_0 : C.live 3 0 = some [0, 1] := by kernel_rfl
@[go_sem] theorem live_3_1 : C.live 3 1 = some [2, 1] := by kernel_rfl
@[go_sem] theorem live_3_2 : C.live 3 2 = some [] := by kernel_rfl
@[go_sem] theorem live_3_3 : C.live 3 3 = some [1, 2] := by kernel_rfl
@[go_sem] theorem live_3_4 : C.live 3 4 = some [2, 5] := by kernel_rfl
@[go_sem] theorem live_3_5 : C.live 3 5 = some [5, 6] := by kernel_rfl
@[go_sem] theorem esc_4 : C.esc 4 = [] := by kernel_rfl
@[go_sem] theorem live_4_0 : C.live 4 0 = some [0, 2, 1] := by kernel_rfl
@[go_sem] theorem live_4_1 : C.live 4 1 = some [3, 2, 1] := by kernel_rfl
@[go_sem] theorem live_4_2 : C.live 4 2 = some [] := by kernel_rfl
@[go_sem] theorem live_4_3 : C.live 4 3 = some [1, 2, 3] := by kernel_rfl
@[go_sem] theorem live_4_4 : C.live 4 4 = some [2, 3, 7] := by kernel_rfl
@[go_sem] theorem live_4_5 : C.live 4 5 = some [7] := by kernel_rfl
@[go_sem] theorem live_4_6 : C.live 4 6 = some [3, 7, 2] := by kernel_rfl
@[go_sem] theorem live_4_7 : C.live 4 7 = some [3, 7, 8, 2] := by kernel_rfl
@[go_sem] theorem live_4_8 : C.live 4 8 = some [10, 8, 2, 9] := by kernel_rfl
@[go_sem] theorem esc_5 : C.esc 5 = [] := by kernel_rfl
@[go_sem] theorem live_5_0 : C.live 5 0 = some [0, 2, 1] := by kernel_rfl
@[go_sem] theorem live_5_1 : C.live 5 1 = some [3, 2, 1] := by kernel_rfl
@[go_sem] theorem live_5_2 : C.live 5 2 = some [] := by kernel_rfl
@[go_sem] theorem live_5_3 : C.live 5 3 = some [1, 2, 3] := by kernel_rfl
@[go_sem] theorem live_5_4 : C.live 5 4 = some [8, 3, 7] := by kernel_rfl
@[go_sem] theorem live_5_5 : C.live 5 5 = some [] := by kernel_rfl
@[go_sem] theorem live_5_6 : C.live 5 6 = some [7, 3] := by kernel_rfl
@[go_sem] theorem esc_6 : C.esc 6 = [] := by kernel_rfl
@[go_sem] theorem live_6_0 : C.live 6 0 = some [0, 1] := by kernel_rfl
@[go_sem] theorem live_6_1 : C.live 6 1 = some [1, 2] := by kernel_rfl
@[go_sem] theorem live_6_2 : C.live 6 2 = some [] := by kernel_rfl
@[go_sem] theorem live_6_3 : C.live 6 3 = some [2, 1] := by kernel_rfl
@[go_sem] theorem live_6_4 : C.live 6 4 = some [1, 2, 5] := by kernel_rfl
@[go_sem] theorem live_6_6 : C.live 6 6 = some [1, 2, 5] := by kernel_rfl
@[go_sem] theorem live_6_7 : C.live 6 7 = some [] := by kernel_rfl
@[go_sem] theorem live_6_5 : C.live 6 5 = some [5, 2, 1] := by kernel_rfl
@[go_sem] theorem live_6_8 : C.live 6 8 = some [2, 1] := by kernel_rfl
@[go_sem] theorem esc_7 : C.esc 7 = [] := by kernel_rfl
@[go_sem] theorem live_7_0 : C.live 7 0 = some [0] := by kernel_rfl
@[go_sem] theorem live_7_1 : C.live 7 1 = some [1] := by kernel_rfl
@[go_sem] theorem live_7_2 : C.live 7 2 = some [1, 3] := by kernel_rfl
@[go_sem] theorem live_7_3 : C.live 7 3 = some [3] := by kernel_rfl
@[go_sem] theorem live_7_4 : C.live 7 4 = some [1] := by kernel_rfl
@[go_sem] theorem live_7_5 : C.live 7 5 = some [4] := by kernel_rfl
@[go_sem] theorem live_7_7 : C.live 7 7 = some [4] := by kernel_rfl
@[go_sem] theorem live_7_8 : C.live 7 8 = some [4] := by kernel_rfl
@[go_sem] theorem live_7_9 : C.live 7 9 = some [4] := by kernel_rfl
@[go_sem] theorem live_7_10 : C.live 7 10 = some [] := by kernel_rfl
@[go_sem] theorem live_7_6 : C.live 7 6 = some [] := by kernel_rfl
@[go_sem] theorem live_7_11 : C.live 7 11 = some [] := by kernel_rfl
@[go_sem] theorem esc_8 : C.esc 8 = [] := by kernel_rfl
@[go_sem] theorem live_8_0 : C.live 8 0 = some [] := by kernel_rfl
@[go_sem] theorem live_8_1 : C.live 8 1 = some [] := by kernel_rfl
@[go_sem] theorem live_8_2 : C.live 8 2 = some [1] := by kernel_rfl
@[go_sem] theorem live_8_3 : C.live 8 3 = some [2] := by kernel_rfl
@[go_sem] theorem live_8_4 : C.live 8 4 = some [3] := by kernel_rfl
@[go_sem] theorem esc_9 : C.esc 9 = [] := by kernel_rfl
@[go_sem] theorem live_9_0 : C.live 9 0 = some [0, 1] := by kernel_rfl
@[go_sem] theorem live_9_1 : C.live 9 1 = some [2, 1, 4] := by kernel_rfl
@[go_sem] theorem live_9_2 : C.live 9 2 = some [5, 2, 1, 4] := by kernel_rfl
@[go_sem] theorem live_9_4 : C.live 9 4 = some [5, 2, 1, 4] := by kernel_rfl
@[go_sem] theorem live_9_5 : C.live 9 5 = some [6, 5, 2, 1, 4] := by kernel_rfl
@[go_sem] theorem live_9_6 : C.live 9 6 = some [7, 6, 5, 2, 1, 4] := by kernel_rfl
@[go_sem] theorem live_9_7 : C.live 9 7 = some [7, 6, 5, 2, 1, 4] := by kernel_rfl
@[go_sem] theorem live_9_8 : C.live 9 8 = some [7, 6, 5, 2, 1, 4] := by kernel_rfl
@[go_sem] theorem live_9_9 : C.live 9 9 = some [7, 6, 5, 2, 1, 4] := by kernel_rfl
@[go_sem] theorem live_9_10 : C.live 9 10 = some [6, 5, 2, 1, 4] := by kernel_rfl
@[go_sem] theorem live_9_11 : C.live 9 11 = some [6, 5, 2, 1, 4] := by kernel_rfl
@[go_sem] theorem live_9_12 : C.live 9 12 = some [61, 6, 5, 2, 1, 4] := by kernel_rfl
@[go_sem] theorem live_9_17 : C.live 9 17 = some [61, 2, 6, 5, 1, 4] := by kernel_rfl
@[go_sem] theorem live_9_18 : C.live 9 18 = some [2, 6, 5, 1, 4] := by kernel_rfl
@[go_sem] theorem live_9_19 : C.live 9 19 = some [2, 6, 5, 1, 4, 8] := by kernel_rfl
@[go_sem] theorem live_9_20 : C.live 9 20 = some [9, 2, 6, 5, 1, 4, 8] := by kernel_rfl
@[go_sem] theorem live_9_22 : C.live 9 22 = some [9, 2, 6, 5, 1, 4, 8] := by kernel_rfl
@[go_sem] theorem live_9_23 : C.live 9 23 = some [9, 2, 6, 5, 1, 4, 8] := by kernel_rfl
@[go_sem] theorem live_9_21 : C.live 9 21 = some [9, 2, 6, 5, 1, 4, 8] := by kernel_rfl
@[go_sem] theorem live_9_13 : C.live 9 13 = some [6, 5, 2, 1, 4] := by kernel_rfl
@[go_sem] theorem live_9_14 : C.live 9 14 = some [8, 6, 5, 2, 1, 4] := by kernel_rfl
@[go_sem] theorem live_9_16 : C.live 9 16 = some [6, 5, 2, 1, 4] := by kernel_rfl
@[go_sem] theorem live_9_15 : C.live 9 15 = some [6, 5, 2, 1, 4] := by kernel_rfl
@[go_sem] theorem live_9_3 : C.live 9 3 = some [5, 2, 1, 4] := by kernel_rfl
@[go_sem] theorem live_9_24 : C.live 9 24 = some [2, 4] := by kernel_rfl
@[go_sem] theorem esc_10 : C.esc 10 = [] := by kernel_rfl
@[go_sem] theorem live_10_0 : C.live 10 0 = some [0] := by kernel_rfl
@[go_sem] theorem live_10_1 : C.live 10 1 = some [1, 2] := by kernel_rfl
@[go_sem] theorem esc_11 : C.esc 11 = [] := by kernel_rfl
@[go_sem] theorem live_11_0 : C.live 11 0 = some [0] := by kernel_rfl
@[go_sem] theorem live_11_1 : C.live 11 1 = some [1] := by kernel_rfl
@[go_sem] theorem live_11_2 : C.live 11 2 = some [1, 3] := by kernel_rfl
@[go_sem] theorem live_11_3 : C.live 11 3 = some [3] := by kernel_rfl
@[go_sem] theorem live_11_4 : C.live 11 4 = some [1] := by kernel_rfl
@[go_sem] theorem live_11_5 : C.live 11 5 = some [6] := by kernel_rfl
@[go_sem] theorem live_11_6 : C.live 11 6 = some [] := by kernel_rfl
@[go_sem] theorem live_11_7 : C.live 11 7 = some [] := by kernel_rfl
@[go_sem] theorem esc_12 : C.esc 12 = [] := by kernel_rfl
@[go_sem] theorem live_12_0 : C.live 12 0 = some [0, 1, 2] := by kernel_rfl
@[go_sem] theorem live_12_1 : C.live 12 1 = some [1, 2, 3, 6] := by kernel_rfl
@[go_sem] theorem live_12_3 : C.live 12 3 = some [3, 2, 1, 6] := by kernel_rfl
@[go_sem] theorem live_12_5 : C.live 12 5 = some [1, 2, 3, 6] := by kernel_rfl
@[go_sem] theorem live_12_7 : C.live 12 7 = some [3, 2, 1, 6] := by kernel_rfl
@[go_sem] theorem live_12_8 : C.live 12 8 = some [6] := by kernel_rfl
@[go_sem] theorem live_12_6 : C.live 12 6 = some [6] := by kernel_rfl
@[go_sem] theorem live_12_4 : C.live 12 4 = some [6] := by kernel_rfl
@[go_sem] theorem live_12_2 : C.live 12 2 = some [6] := by kernel_rfl
@[go_sem] theorem live_12_9 : C.live 12 9 = some [1, 2, 3, 6] := by kernel_rfl
@[go_sem] theorem live_12_10 : C.live 12 10 = some [3, 8, 6] := by kernel_rfl
@[go_sem] theorem live_12_11 : C.live 12 11 = some [3, 9, 8, 6] := by kernel_rfl
@[go_sem] theorem live_12_12 : C.live 12 12 = some [47, 9, 8, 45, 6, 46] := by kernel_rfl
@[go_sem] theorem live_12_13 : C.live 12 13 = some [47, 9, 8, 45, 6, 46] := by kernel_rfl
@[go_sem] theorem live_12_14 : C.live 12 14 = some [11, 47, 9, 8, 45, 6, 46] := by kernel_rfl
@[go_sem] theorem live_12_15 : C.live 12 15 = some [47, 9, 8, 45, 6, 46] := by kernel_rfl
@[go_sem] theorem live_12_16 : C.live 12 16 = some [9, 6] := by kernel_rfl
@[go_sem] theorem esc_13 : C.esc 13 = [] := by kernel_rfl
@[go_sem] theorem live_13_0 : C.live 13 0 = some [1, 0] := by kernel_rfl
@[go_sem] theorem live_13_1 : C.live 13 1 = some [1, 0] := by kernel_rfl
@[go_sem] theorem live_13_2 : C.live 13 2 = some [1, 0, 5] := by kernel_rfl
@[go_sem] theorem live_13_3 : C.live 13 3 = some [5, 6, 1, 0] := by kernel_rfl
@[go_sem] theorem live_13_5 : C.live 13 5 = some [5, 6, 1, 0] := by kernel_rfl
@[go_sem] theorem live_13_6 : C.live 13 6 = some [5, 6, 1, 0] := by kernel_rfl
@[go_sem] theorem live_13_7 : C.live 13 7 = some [5, 6, 1, 0] := by kernel_rfl
@[go_sem] theorem live_13_8 : C.live 13 8 = some [5, 6, 1, 0] := by kernel_rfl
@[go_sem] theorem live_13_9 : C.live 13 9 = some [5, 6, 1, 0] := by kernel_rfl
@[go_sem] theorem live_13_4 : C.live 13 4 = some [6, 1, 0, 5] := by kernel_rfl
@[go_sem] theorem live_13_10 : C.live 13 10 = some [5] := by kernel_rfl
@[go_sem] theorem esc_14 : C.esc 14 = [] := by kernel_rfl
@[go_sem] theorem live_14_0 : C.live 14 0 = some [0] := by kernel_rfl
@[go_sem] theorem live_14_1 : C.live 14 1 = some [0, 2] := by kernel_rfl
@[go_sem] theorem live_14_2 : C.live 14 2 = some [0, 3, 2] := by kernel_rfl
@[go_sem] theorem live_14_3 : C.live 14 3 = some [8, 3, 6, 2, 7] := by kernel_rfl
@[go_sem] theorem live_14_4 : C.live 14 4 = some [8, 3, 6, 2, 7] := by kernel_rfl
@[go_sem] theorem live_14_5 : C.live 14 5 = some [5, 8, 3, 6, 2, 7] := by kernel_rfl
@[go_sem] theorem live_14_6 : C.live 14 6 = some [8, 3, 6, 2, 7] := by kernel_rfl
@[go_sem] theorem live_14_7 : C.live 14 7 = some [3, 2] := by kernel_rfl
@[go_sem] theorem esc_15 : C.esc 15 = [] := by kernel_rfl
@[go_sem] theorem live_15_0 : C.live 15 0 = some [0] := by kernel_rfl
@[go_sem] theorem live_15_1 : C.live 15 1 = some [1] := by kernel_rfl
@[go_sem] theorem esc_16 : C.esc 16 = [] := by kernel_rfl
@[go_sem] theorem live_16_0 : C.live 16 0 = some [0] := by kernel_rfl
@[go_sem] theorem live_16_1 : C.live 16 1 = some [1] := by kernel_rfl
@[go_sem] theorem esc_17 : C.esc 17 = [] := by kernel_rfl
@[go_sem] theorem live_17_0 : C.live 17 0 = some [0] := by kernel_rfl
@[go_sem] theorem live_17_1 : C.live 17 1 = some [1] := by kernel_rfl
@[go_sem] theorem esc_18 : C.esc 18 = [] := by kernel_rfl
@[go_sem] theorem live_18_0 : C.live 18 0 = some [0] := by kernel_rfl
@[go_sem] theorem live_18_1 : C.live 18 1 = some [1] := by kernel_rfl
@[go_sem] theorem esc_19 : C.esc 19 = [] := by kernel_rfl
@[go_sem] theorem live_19_0 : C.live 19 0 = some [0] := by kernel_rfl
@[go_sem] theorem live_19_1 : C.live 19 1 = some [1, 2] := by kernel_rfl
@[go_sem] theorem live_19_2 : C.live 19 2 = some [1, 3, 2] := by kernel_rfl
@[go_sem] theorem live_19_3 : C.live 19 3 = some [1, 3, 2] := by kernel_rfl
@[go_sem] theorem live_19_4 : C.live 19 4 = some [1, 3, 2] := by kernel_rfl
@[go_sem] theorem live_19_5 : C.live 19 5 = some [3, 2] := by kernel_rfl
@[go_sem] theorem live_19_6 : C.live 19 6 = some [3, 2] := by kernel_rfl
@[go_sem] theorem esc_20 : C.esc 20 = [] := by kernel_rfl
@[go_sem] theorem live_20_0 : C.live 20 0 = some [0, 1] := by kernel_rfl
@[go_sem] theorem live_20_1 : C.live 20 1 = some [1, 2, 5] := by kernel_rfl
@[go_sem] theorem live_20_2 : C.live 20 2 = some [2, 5] := by kernel_rfl
@[go_sem] theorem live_20_3 : C.live 20 3 = some [1, 2, 5] := by kernel_rfl
@[go_sem] theorem live_20_4 : C.live 20 4 = some [6, 1, 2, 5] := by kernel_rfl
@[go_sem] theorem live_20_5 : C.live 20 5 = some [6, 1, 2, 5] := by kernel_rfl
@[go_sem] theorem live_20_6 : C.live 20 6 = some [6, 2, 5] := by kernel_rfl
@[go_sem] theorem live_20_7 : C.live 20 7 = some [6, 2, 5] := by kernel_rfl
@[go_sem] theorem esc_21 : C.esc 21 = [] := by kernel_rfl
@[go_sem] theorem live_21_0 : C.live 21 0 = some [0] := by kernel_rfl
@[go_sem] theorem live_21_1 : C.live 21 1 = some [1] := by kernel_rfl
@[go_sem] theorem live_21_2 : C.live 21 2 = some [4] := by kernel_rfl
@[go_sem] theorem esc_22 : C.esc 22 = [] := by kernel_rfl
@[go_sem] theorem live_22_0 : C.live 22 0 = some [0] := by kernel_rfl
@[go_sem] theorem live_22_1 : C.live 22 1 = some [1, 2, 3, 4] := by kernel_rfl
@[go_sem] theorem live_22_2 : C.live 22 2 = some [2, 3, 4] := by kernel_rfl
@[go_sem] theorem live_22_3 : C.live 22 3 = some [1, 2, 3, 4] := by kernel_rfl
@[go_sem] theorem live_22_4 : C.live 22 4 = some [1, 2, 3, 4] := by kernel_rfl
@[go_sem] theorem live_22_5 : C.live 22 5 = some [15, 13, 2, 3, 4, 14] := by kernel_rfl
@[go_sem] theorem live_22_6 : C.live 22 6 = some [15, 13, 2, 3, 4, 14] := by kernel_rfl
@[go_sem] theorem live_22_7 : C.live 22 7 = some [7, 15, 13, 2, 3, 4, 14] := by kernel_rfl
@[go_sem] theorem live_22_12 : C.live 22 12 = some [15, 13, 2, 3, 4, 14] := by kernel_rfl
@[go_sem] theorem live_22_13 : C.live 22 13 = some [2, 3, 4] := by kernel_rfl
@[go_sem] theorem esc_23 : C.esc 23 = [3] := by kernel_rfl
@[go_sem] theorem live_23_0 : C.live 23 0 = some [0] := by kernel_rfl
@[go_sem] theorem live_23_1 : C.live 23 1 = some [1] := by kernel_rfl
@[go_sem] theorem live_23_2 : C.live 23 2 = some [] := by kernel_rfl
@[go_sem] theorem live_23_3 : C.live 23 3 = some [1] := by kernel_rfl
@[go_sem] theorem live_23_4 : C.live 23 4 = some [1, 3] := by kernel_rfl
@[go_sem] theorem live_23_5 : C.live 23 5 = some [3] := by kernel_rfl
@[go_sem] theorem live_23_6 : C.live 23 6 = some [1, 3] := by kernel_rfl
@[go_sem] theorem live_23_7 : C.live 23 7 = some [4, 3] := by kernel_rfl
@[go_sem] theorem live_23_8 : C.live 23 8 = some [] := by kernel_rfl
@[go_sem] theorem live_23_9 : C.live 23 9 = some [3] := by kernel_rfl
@[go_sem] theorem esc_24 : C.esc 24 = [] := by kernel_rfl
@[go_sem] theorem live_24_0 : C.live 24 0 = some [0] := by kernel_rfl
@[go_sem] theorem live_24_1 : C.live 24 1 = some [0] := by kernel_rfl
@[go_sem] theorem esc_25 : C.esc 25 = [] := by kernel_rfl
@[go_sem] theorem live_25_0 : C.live 25 0 = some [0, 1] := by kernel_rfl
@[go_sem] theorem live_25_1 : C.live 25 1 = some [0, 1] := by kernel_rfl
@[go_sem] theorem esc_26 : C.esc 26 = [3] := by kernel_rfl
@[go_sem] theorem live_26_0 : C.live 26 0 = some [0] := by kernel_rfl
@[go_sem] theorem live_26_1 : C.live 26 1 = some [1] := by kernel_rfl
@[go_sem] theorem live_26_2 : C.live 26 2 = some [3, 1] := by kernel_rfl
@[go_sem] theorem live_26_3 : C.live 26 3 = some [9, 3, 7, 1, 8] := by kernel_rfl
@[go_sem] theorem live_26_4 : C.live 26 4 = some [9, 3, 7, 1, 8] := by kernel_rfl
@[go_sem] theorem live_26_5 : C.live 26 5 = some [5, 9, 3, 7, 1, 8] := by kernel_rfl
@[go_sem] theorem live_26_6 : C.live 26 6 = some [9, 3, 7, 1, 8] := by kernel_rfl
@[go_sem] theorem live_26_7 : C.live 26 7 = some [1, 3] := by kernel_rfl
@[go_sem] theorem live_26_8 : C.live 26 8 = some [3] := by kernel_rfl
@[go_sem] theorem esc_27 : C.esc 27 = [3, 5] := by kernel_rfl
@[go_sem] theorem live_27_0 : C.live 27 0 = some [0, 1] := by kernel_rfl
@[go_sem] theorem live_27_1 : C.live 27 1 = some [2, 3] := by kernel_rfl
@[go_sem] theorem live_27_2 : C.live 27 2 = some [2, 3, 5] := by kernel_rfl
@[go_sem] theorem live_27_3 : C.live 27 3 = some [5] := by kernel_rfl
@[go_sem] theorem esc_28 : C.esc 28 = [] := by kernel_rfl
@[go_sem] theorem live_28_0 : C.live 28 0 = some [0, 1] := by kernel_rfl
@[go_sem] theorem live_28_1 : C.live 28 1 = some [1, 2] := by kernel_rfl
@[go_sem] theorem live_28_2 : C.live 28 2 = some [1, 5, 2] := by kernel_rfl
@[go_sem] theorem live_28_3 : C.live 28 3 = some [5, 10, 2, 8, 9] := by kernel_rfl
@[go_sem] theorem live_28_4 : C.live 28 4 = some [5, 10, 2, 8, 9] := by kernel_rfl
@[go_sem] theorem live_28_5 : C.live 28 5 = some [5, 7, 10, 2, 8, 9] := by kernel_rfl
@[go_sem] theorem live_28_6 : C.live 28 6 = some [5, 7, 10, 2, 8, 9] := by kernel_rfl
@[go_sem] theorem live_28_7 : C.live 28 7 = some [5, 7, 10, 2, 8, 9] := by kernel_rfl
@[go_sem] theorem live_28_8 : C.live 28 8 = some [5, 7, 10, 2, 8, 9] := by kernel_rfl
@[go_sem] theorem live_28_9 : C.live 28 9 = some [10, 5, 2, 8, 9] := by kernel_rfl
@[go_sem] theorem live_28_10 : C.live 28 10 = some [5] := by kernel_rfl
@[go_sem] theorem esc_29 : C.esc 29 = [] := by kernel_rfl
@[go_sem] theorem live_29_0 : C.live 29 0 = some [0, 1] := by kernel_rfl
@[go_sem] theorem live_29_1 : C.live 29 1 = some [1, 2] := by kernel_rfl
@[go_sem] theorem live_29_2 : C.live 29 2 = some [2] := by kernel_rfl
@[go_sem] theorem live_29_3 : C.live 29 3 = some [1] := by kernel_rfl
@[go_sem] theorem esc_30 : C.esc 30 = [] := by kernel_rfl
@[go_sem] theorem live_30_0 : C.live 30 0 = some [0, 1] := by kernel_rfl
@[go_sem] theorem live_30_1 : C.live 30 1 = some [1, 2] := by kernel_rfl
@[go_sem] theorem live_30_2 : C.live 30 2 = some [5, 1, 2] := by kernel_rfl
@[go_sem] theorem live_30_3 : C.live 30 3 = some [5, 6, 1, 2] := by kernel_rfl
@[go_sem] theorem live_30_5 : C.live 30 5 = some [5, 6, 1, 2] := by kernel_rfl
@[go_sem] theorem live_30_4 : C.live 30 4 = some [6, 5, 1, 2] := by kernel_rfl
@[go_sem] theorem live_30_6 : C.live 30 6 = some [5] := by kernel_rfl
@[go_sem] theorem esc_31 : C.esc 31 = [] := by kernel_rfl
@[go_sem] theorem live_31_0 : C.live 31 0 = some [0, 1] := by kernel_rfl
@[go_sem] theorem live_31_1 : C.live 31 1 = some [2, 3, 4] := by kernel_rfl
@[go_sem] theorem live_31_2 : C.live 31 2 = some [6, 2, 3, 4] := by kernel_rfl
@[go_sem] theorem live_31_3 : C.live 31 3 = some [6, 2, 3, 4] := by kernel_rfl
@[go_sem] theorem live_31_4 : C.live 31 4 = some [5, 6, 2, 3, 4] := by kernel_rfl
@[go_sem] theorem live_31_5 : C.live 31 5 = some [6, 2, 3, 4] := by kernel_rfl
@[go_sem] theorem live_31_6 : C.live 31 6 = some [2, 4] := by kernel_rfl
@[go_sem] theorem esc_32 : C.esc 32 = [] := by kernel_rfl
@[go_sem] theorem live_32_0 : C.live 32 0 = some [0] := by kernel_rfl
@[go_sem] theorem live_32_1 : C.live 32 1 = some [1, 2] := by kernel_rfl
@[go_sem] theorem live_32_2 : C.live 32 2 = some [1, 3, 2] := by kernel_rfl
@[go_sem] theorem live_32_3 : C.live 32 3 = some [1, 3, 2] := by kernel_rfl
@[go_sem] theorem live_32_4 : C.live 32 4 = some [1, 3, 2] := by kernel_rfl
@[go_sem] theorem live_32_5 : C.live 32 5 = some [1, 3, 2] := by kernel_rfl
@[go_sem] theorem live_32_6 : C.live 32 6 = some [13, 1, 3, 2] := by kernel_rfl
@[go_sem] theorem live_32_9 : C.live 32 9 = some [13, 1, 3, 2] := by kernel_rfl
@[go_sem] theorem live_32_11 : C.live 32 11 = some [1, 13, 3, 2] := by kernel_rfl
@[go_sem] theorem live_32_13 : C.live 32 13 = some [13, 3, 1, 2] := by kernel_rfl
@[go_sem] theorem live_32_15 : C.live 32 15 = some [13, 3, 1, 2] := by kernel_rfl
@[go_sem] theorem live_32_16 : C.live 32 16 = some [3, 1, 2] := by kernel_rfl
@[go_sem] theorem live_32_17 : C.live 32 17 = some [3, 1, 2] := by kernel_rfl
@[go_sem] theorem live_32_18 : C.live 32 18 = some [3, 1, 2] := by kernel_rfl
@[go_sem] theorem live_32_14 : C.live 32 14 = some [3, 1, 2] := by kernel_rfl
@[go_sem] theorem live_32_12 : C.live 32 12 = some [3, 2] := by kernel_rfl
@[go_sem] theorem live_32_10 : C.live 32 10 = some [3, 2] := by kernel_rfl
@[go_sem] theorem live_32_7 : C.live 32 7 = some [1, 3, 2] := by kernel_rfl
@[go_sem] theorem live_32_8 : C.live 32 8 = some [3, 2] := by kernel_rfl
@[go_sem] theorem live_32_19 : C.live 32 19 = some [3, 2] := by kernel_rfl
@[go_sem] theorem esc_33 : C.esc 33 = [] := by kernel_rfl
@[go_sem] theorem live_33_0 : C.live 33 0 = some [0, 1] := by kernel_rfl
@[go_sem] theorem live_33_1 : C.live 33 1 = some [1, 2] := by kernel_rfl
@[go_sem] theorem live_33_2 : C.live 33 2 = some [] := by kernel_rfl
@[go_sem] theorem live_33_3 : C.live 33 3 = some [2, 1] := by kernel_rfl
@[go_sem] theorem esc_34 : C.esc 34 = [] := by kernel_rfl
@[go_sem] theorem live_34_0 : C.live 34 0 = some [0] := by kernel_rfl
@[go_sem] theorem live_34_1 : C.live 34 1 = some [0] := by kernel_rfl
@[go_sem] theorem esc_35 : C.esc 35 = [] := by kernel_rfl
@[go_sem] theorem live_35_0 : C.live 35 0 = some [0] := by kernel_rfl
@[go_sem] theorem live_35_1 : C.live 35 1 = some [1] := by kernel_rfl
@[go_sem] theorem live_35_2 : C.live 35 2 = some [3, 1] := by kernel_rfl
@[go_sem] theorem live_35_3 : C.live 35 3 = some [1] := by kernel_rfl
@[go_sem] theorem live_35_4 : C.live 35 4 = some [1, 3] := by kernel_rfl
@[go_sem] theorem live_35_5 : C.live 35 5 = some [3, 4, 1] := by kernel_rfl
@[go_sem] theorem live_35_7 : C.live 35 7 = some [3, 4, 1] := by kernel_rfl
@[go_sem] theorem live_35_6 : C.live 35 6 = some [4, 1, 3] := by kernel_rfl
@[go_sem] theorem live_35_8 : C.live 35 8 = some [3] := by kernel_rfl
@[go_sem] theorem esc_36 : C.esc 36 = [21] := by kernel_rfl
@[go_sem] theorem live_36_0 : C.live 36 0 = some [0] := by kernel_rfl
@[go_sem] theorem live_36_1 : C.live 36 1 = some [1] := by kernel_rfl
@[go_sem] theorem live_36_2 : C.live 36 2 = some [1, 4] := by kernel_rfl
@[go_sem] theorem live_36_3 : C.live 36 3 = some [4] := by kernel_rfl
@[go_sem] theorem live_36_4 : C.live 36 4 = some [1] := by kernel_rfl
@[go_sem] theorem live_36_5 : C.live 36 5 = some [5, 1] := by kernel_rfl
@[go_sem] theorem live_36_6 : C.live 36 6 = some [24, 1, 23, 5, 25] := by kernel_rfl
@[go_sem] theorem live_36_7 : C.live 36 7 = some [24, 1, 23, 5, 25] := by kernel_rfl
@[go_sem] theorem live_36_8 : C.live 36 8 = some [24, 1, 23, 5, 25, 7] := by kernel_rfl
@[go_sem] theorem live_36_9 : C.live 36 9 = some [] := by kernel_rfl
@[go_sem] theorem live_36_10 : C.live 36 10 = some [7, 25, 5, 23, 1, 24] := by kernel_rfl
@[go_sem] theorem live_36_11 : C.live 36 11 = some [25, 5, 23, 1, 24] := by kernel_rfl
@[go_sem] theorem live_36_12 : C.live 36 12 = some [1, 5] := by kernel_rfl
@[go_sem] theorem live_36_13 : C.live 36 13 = some [8, 1, 5] := by kernel_rfl
@[go_sem] theorem live_36_14 : C.live 36 14 = some [42, 5, 1, 41, 8, 43] := by kernel_rfl
@[go_sem] theorem live_36_15 : C.live 36 15 = some [42, 5, 1, 41, 8, 43] := by kernel_rfl
@[go_sem] theorem live_36_16 : C.live 36 16 = some [42, 5, 1, 41, 8, 43, 10] := by kernel_rfl
@[go_sem] theorem live_36_17 : C.live 36 17 = some [] := by kernel_rfl
@[go_sem] theorem live_36_18 : C.live 36 18 = some [10, 43, 8, 41, 1, 5, 42] := by kernel_rfl
@[go_sem] theorem live_36_19 : C.live 36 19 = some [43, 8, 41, 1, 5, 42] := by kernel_rfl
@[go_sem] theorem live_36_20 : C.live 36 20 = some [1, 5] := by kernel_rfl
@[go_sem] theorem live_36_21 : C.live 36 21 = some [5, 11] := by kernel_rfl
@[go_sem] theorem esc_37 : C.esc 37 = [3] := by kernel_rfl
@[go_sem] theorem live_37_0 : C.live 37 0 = some [0] := by kernel_rfl
@[go_sem] theorem live_37_1 : C.live 37 1 = some [1] := by kernel_rfl
@[go_sem] theorem live_37_2 : C.live 37 2 = some [1, 3] := by kernel_rfl
@[go_sem] theorem live_37_3 : C.live 37 3 = some [3] := by kernel_rfl
@[go_sem] theorem esc_38 : C.esc 38 = [1] := by kernel_rfl
@[go_sem] theorem live_38_0 : C.live 38 0 = some [0] := by kernel_rfl
@[go_sem] theorem live_38_1 : C.live 38 1 = some [1] := by kernel_rfl
@[go_sem] theorem esc_40 : C.esc 40 = [4] := by kernel_rfl
@[go_sem] theorem live_40_0 : C.live 40 0 = some [0] := by kernel_rfl
@[go_sem] theorem live_40_1 : C.live 40 1 = some [0] := by kernel_rfl
@[go_sem] theorem live_40_2 : C.live 40 2 = some [] := by kernel_rfl
@[go_sem] theorem live_40_3 : C.live 40 3 = some [0] := by kernel_rfl
@[go_sem] theorem live_40_4 : C.live 40 4 = some [9, 8, 0, 10] := by kernel_rfl
@[go_sem] theorem live_40_5 : C.live 40 5 = some [9, 8, 0, 10] := by kernel_rfl
@[go_sem] theorem live_40_6 : C.live 40 6 = some [3, 4, 9, 8, 0, 10] := by kernel_rfl
@[go_sem] theorem live_40_8 : C.live 40 8 = some [10, 0, 8, 9, 4, 3] := by kernel_rfl
@[go_sem] theorem live_40_10 : C.live 40 10 = some [3, 4, 9, 8, 0, 10] := by kernel_rfl
@[go_sem] theorem live_40_11 : C.live 40 11 = some [] := by kernel_rfl
@[go_sem] theorem live_40_9 : C.live 40 9 = some [] := by kernel_rfl
@[go_sem] theorem live_40_7 : C.live 40 7 = some [] := by kernel_rfl
@[go_sem] theorem live_40_12 : C.live 40 12 = some [10, 0, 8, 9] := by kernel_rfl
@[go_sem] theorem live_40_13 : C.live 40 13 = some [] := by kernel_rfl
@[go_sem] theorem esc_41 : C.esc 41 = [11] := by kernel_rfl
@[go_sem] theorem live_41_0 : C.live 41 0 = some [0, 1, 2] := by kernel_rfl
@[go_sem] theorem live_41_1 : C.live 41 1 = some [1, 2, 3] := by kernel_rfl
@[go_sem] theorem live_41_2 : C.live 41 2 = some [3, 7] := by kernel_rfl
@[go_sem] theorem live_41_3 : C.live 41 3 = some [7] := by kernel_rfl
@[go_sem] theorem esc_42 : C.esc 42 = [] := by kernel_rfl
@[go_sem] theorem live_42_0 : C.live 42 0 = some [0, 1, 2] := by kernel_rfl
@[go_sem] theorem live_42_1 : C.live 42 1 = some [3, 1, 2] := by kernel_rfl
@[go_sem] theorem live_42_2 : C.live 42 2 = some [3, 1, 2] := by kernel_rfl
@[go_sem] theorem esc_43 : C.esc 43 = [] := by kernel_rfl
@[go_sem] theorem live_43_0 : C.live 43 0 = some [0, 1] := by kernel_rfl
@[go_sem] theorem live_43_1 : C.live 43 1 = some [1, 2] := by kernel_rfl
@[go_sem] theorem live_43_2 : C.live 43 2 = some [6, 1, 2, 5] := by kernel_rfl
@[go_sem] theorem live_43_3 : C.live 43 3 = some [] := by kernel_rfl
@[go_sem] theorem live_43_4 : C.live 43 4 = some [5, 2, 1] := by kernel_rfl
@[go_sem] theorem live_43_5 : C.live 43 5 = some [] := by kernel_rfl
@[go_sem] theorem live_43_6 : C.live 43 6 = some [1, 2, 5] := by kernel_rfl
@[go_sem] theorem live_43_7 : C.live 43 7 = some [1, 2, 5] := by kernel_rfl
@[go_sem] theorem live_43_8 : C.live 43 8 = some [1, 2, 5, 7] := by kernel_rfl
@[go_sem] theorem live_43_9 : C.live 43 9 = some [7] := by kernel_rfl
@[go_sem] theorem live_43_10 : C.live 43 10 = some [5, 2, 1] := by kernel_rfl
@[go_sem] theorem live_43_11 : C.live 43 11 = some [2, 1] := by kernel_rfl
@[go_sem] theorem live_43_12 : C.live 43 12 = some [1, 8] := by kernel_rfl
@[go_sem] theorem live_43_13 : C.live 43 13 = some [8] := by kernel_rfl
@[go_sem] theorem live_43_14 : C.live 43 14 = some [1] := by kernel_rfl
@[go_sem] theorem live_43_15 : C.live 43 15 = some [] := by kernel_rfl
@[go_sem] theorem live_43_16 : C.live 43 16 = some [] := by kernel_rfl
@[go_sem] theorem esc_44 : C.esc 44 = [] := by kernel_rfl
@[go_sem] theorem live_44_0 : C.live 44 0 = some [0] := by kernel_rfl
@[go_sem] theorem esc_45 : C.esc 45 = [] := by kernel_rfl
@[go_sem] theorem live_45_0 : C.live 45 0 = some [0] := by kernel_rfl
@[go_sem] theorem live_45_1 : C.live 45 1 = some [0] := by kernel_rfl
@[go_sem] theorem esc_46 : C.esc 46 = [] := by kernel_rfl
@[go_sem] theorem live_46_0 : C.live 46 0 = some [0] := by kernel_rfl
@[go_sem] theorem live_46_1 : C.live 46 1 = some [0] := by kernel_rfl
@[go_sem] theorem live_46_2 : C.live 46 2 = some [6, 0] := by kernel_rfl
@[go_sem] theorem live_46_3 : C.live 46 3 = some [7, 6, 0] := by kernel_rfl
@[go_sem] theorem live_46_4 : C.live 46 4 = some [4, 6, 0, 3] := by kernel_rfl
@[go_sem] theorem live_46_5 : C.live 46 5 = some [3] := by kernel_rfl
@[go_sem] theorem live_46_6 : C.live 46 6 = some [0] := by kernel_rfl
@[go_sem] theorem esc_47 : C.esc 47 = [] := by kernel_rfl
@[go_sem] theorem live_47_0 : C.live 47 0 = some [0] := by kernel_rfl
@[go_sem] theorem live_47_1 : C.live 47 1 = some [0] := by kernel_rfl
@[go_sem] theorem live_47_2 : C.live 47 2 = some [3] := by kernel_rfl
@[go_sem] theorem live_47_3 : C.live 47 3 = some [3] := by kernel_rfl
@[go_sem] theorem live_47_4 : C.live 47 4 = some [3] := by kernel_rfl
@[go_sem] theorem live_47_5 : C.live 47 5 = some [3] := by kernel_rfl
@[go_sem] theorem live_47_6 : C.live 47 6 = some [3] := by kernel_rfl
@[go_sem] theorem live_47_7 : C.live 47 7 = some [3] := by kernel_rfl
@[go_sem] theorem live_47_8 : C.live 47 8 = some [3] := by kernel_rfl
@[go_sem] theorem live_47_9 : C.live 47 9 = some [3] := by kernel_rfl
@[go_sem] theorem live_47_10 : C.live 47 10 = some [3] := by kernel_rfl
@[go_sem] theorem live_47_11 : C.live 47 11 = some [3] := by kernel_rfl
@[go_sem] theorem live_47_12 : C.live 47 12 = some [3] := by kernel_rfl
@[go_sem] theorem live_47_13 : C.live 47 13 = some [3] := by kernel_rfl
@[go_sem] theorem live_47_14 : C.live 47 14 = some [3] := by kernel_rfl
@[go_sem] theorem live_47_15 : C.live 47 15 = some [3] := by kernel_rfl
@[go_sem] theorem live_47_16 : C.live 47 16 = some [3] := by kernel_rfl
@[go_sem] theorem live_47_17 : C.live 47 17 = some [3] := by kernel_rfl
@[go_sem] theorem live_47_18 : C.live 47 18 = some [3] := by kernel_rfl
@[go_sem] theorem live_47_19 : C.live 47 19 = some [3] := by kernel_rfl
@[go_sem] theorem live_47_20 : C.live 47 20 = some [3] := by kernel_rfl
@[go_sem] theorem live_47_21 : C.live 47 21 = some [3] := by kernel_rfl
@[go_sem] theorem live_47_22 : C.live 47 22 = some [3] := by kernel_rfl
@[go_sem] theorem live_47_23 : C.live 47 23 = some [3] := by kernel_rfl
@[go_sem] theorem live_47_24 : C.live 47 24 = some [3] := by kernel_rfl
@[go_sem] theorem live_47_25 : C.live 47 25 = some [3] := by kernel_rfl
@[go_sem] theorem live_47_26 : C.live 47 26 = some [3] := by kernel_rfl
@[go_sem] theorem live_47_27 : C.live 47 27 = some [] := by kernel_rfl
@[go_sem] theorem live_47_28 : C.live 47 28 = some [] := by kernel_rfl
@[go_sem] theorem esc_48 : C.esc 48 = [] := by kernel_rfl
@[go_sem] theorem live_48_0 : C.live 48 0 = some [0, 1] := by kernel_rfl
@[go_sem] theorem live_48_1 : C.live 48 1 = some [0, 1] := by kernel_rfl
@[go_sem] theorem live_48_2 : C.live 48 2 = some [7, 1, 0, 8] := by kernel_rfl
@[go_sem] theorem live_48_3 : C.live 48 3 = some [7, 1, 0, 8] := by kernel_rfl
@[go_sem] theorem live_48_4 : C.live 48 4 = some [7, 1, 0, 8, 5] := by kernel_rfl
@[go_sem] theorem live_48_5 : C.live 48 5 = some [5] := by kernel_rfl
@[go_sem] theorem live_48_6 : C.live 48 6 = some [8, 0, 1, 7] := by kernel_rfl
@[go_sem] theorem live_48_7 : C.live 48 7 = some [] := by kernel_rfl
@[go_sem] theorem esc_49 : C.esc 49 = [] := by kernel_rfl
@[go_sem] theorem live_49_0 : C.live 49 0 = some [0, 2] := by kernel_rfl
@[go_sem] theorem live_49_1 : C.live 49 1 = some [3, 2] := by kernel_rfl
@[go_sem] theorem live_49_2 : C.live 49 2 = some [3, 2] := by kernel_rfl
@[go_sem] theorem esc_50 : C.esc 50 = [] := by kernel_rfl
@[go_sem] theorem live_50_0 : C.live 50 0 = some [0, 3, 2] := by kernel_rfl
@[go_sem] theorem live_50_1 : C.live 50 1 = some [4, 3, 2] := by kernel_rfl
@[go_sem] theorem esc_51 : C.esc 51 = [] := by kernel_rfl
@[go_sem] theorem live_51_0 : C.live 51 0 = some [0, 2, 1] := by kernel_rfl
@[go_sem] theorem live_51_1 : C.live 51 1 = some [3, 2, 1] := by kernel_rfl
@[go_sem] theorem esc_52 : C.esc 52 = [3] := by kernel_rfl
@[go_sem] theorem live_52_0 : C.live 52 0 = some [0, 1] := by kernel_rfl
@[go_sem] theorem live_52_1 : C.live 52 1 = some [2, 3] := by kernel_rfl
@[go_sem] theorem esc_53 : C.esc 53 = [] := by kernel_rfl
@[go_sem] theorem live_53_0 : C.live 53 0 = some [0, 1] := by kernel_rfl
@[go_sem] theorem live_53_1 : C.live 53 1 = some [3, 2, 4] := by kernel_rfl
@[go_sem] theorem live_53_2 : C.live 53 2 = some [5, 3, 2, 4] := by kernel_rfl
@[go_sem] theorem live_53_3 : C.live 53 3 = some [5, 3, 2, 4] := by kernel_rfl
@[go_sem] theorem live_53_4 : C.live 53 4 = some [5, 3, 2, 4] := by kernel_rfl
@[go_sem] theorem live_53_5 : C.live 53 5 = some [5, 3, 2, 4] := by kernel_rfl
@[go_sem] theorem live_53_6 : C.live 53 6 = some [21, 3, 2, 19, 4, 20] := by kernel_rfl
@[go_sem] theorem live_53_7 : C.live 53 7 = some [21, 3, 2, 19, 4, 20] := by kernel_rfl
@[go_sem] theorem live_53_8 : C.live 53 8 = some [7, 21, 3, 2, 19, 4, 20] := by kernel_rfl
@[go_sem] theorem live_53_9 : C.live 53 9 = some [21, 3, 2, 19, 4, 20] := by kernel_rfl
@[go_sem] theorem live_53_10 : C.live 53 10 = some [3, 4] := by kernel_rfl
@[go_sem] theorem esc_54 : C.esc 54 = [] := by kernel_rfl
@[go_sem] theorem live_54_0 : C.live 54 0 = some [0] := by kernel_rfl
@[go_sem] theorem live_54_1 : C.live 54 1 = some [1] := by kernel_rfl
@[go_sem] theorem live_54_2 : C.live 54 2 = some [3, 1] := by kernel_rfl
@[go_sem] theorem live_54_3 : C.live 54 3 = some [7, 3, 1] := by kernel_rfl
@[go_sem] theorem live_54_4 : C.live 54 4 = some [7, 3, 1] := by kernel_rfl
@[go_sem] theorem live_54_5 : C.live 54 5 = some [7, 3, 1] := by kernel_rfl
@[go_sem] theorem live_54_6 : C.live 54 6 = some [1] := by kernel_rfl
@[go_sem] theorem live_54_7 : C.live 54 7 = some [1, 3] := by kernel_rfl
@[go_sem] theorem live_54_8 : C.live 54 8 = some [3, 15, 13, 14] := by kernel_rfl
@[go_sem] theorem live_54_9 : C.live 54 9 = some [3, 15, 13, 14] := by kernel_rfl
@[go_sem] theorem live_54_10 : C.live 54 10 = some [3, 5, 15, 13, 14] := by kernel_rfl
@[go_sem] theorem live_54_11 : C.live 54 11 = some [15, 3, 13, 14] := by kernel_rfl
@[go_sem] theorem live_54_12 : C.live 54 12 = some [3] := by kernel_rfl
@[go_sem] theorem esc_55 : C.esc 55 = [] := by kernel_rfl
@[go_sem] theorem live_55_0 : C.live 55 0 = some [0, 1] := by kernel_rfl
@[go_sem] theorem live_55_1 : C.live 55 1 = some [2, 3, 4] := by kernel_rfl
@[go_sem] theorem live_55_2 : C.live 55 2 = some [6, 2, 3, 4] := by kernel_rfl
@[go_sem] theorem live_55_3 : C.live 55 3 = some [6, 2, 3, 4] := by kernel_rfl
@[go_sem] theorem live_55_4 : C.live 55 4 = some [5, 6, 2, 3, 4] := by kernel_rfl
@[go_sem] theorem live_55_5 : C.live 55 5 = some [6, 2, 3, 4] := by kernel_rfl
@[go_sem] theorem live_55_6 : C.live 55 6 = some [2, 4] := by kernel_rfl
@[go_sem] theorem esc_56 : C.esc 56 = [] := by kernel_rfl
@[go_sem] theorem live_56_0 : C.live 56 0 = some [0, 1] := by kernel_rfl
@[go_sem] theorem live_56_1 : C.live 56 1 = some [2, 1, 4] := by kernel_rfl
@[go_sem] theorem live_56_2 : C.live 56 2 = some [6, 2, 1, 4] := by kernel_rfl
@[go_sem] theorem live_56_3 : C.live 56 3 = some [6, 2, 1, 4] := by kernel_rfl
@[go_sem] theorem live_56_4 : C.live 56 4 = some [5, 6, 2, 1, 4] := by kernel_rfl
@[go_sem] theorem live_56_5 : C.live 56 5 = some [6, 2, 1, 4] := by kernel_rfl
@[go_sem] theorem live_56_6 : C.live 56 6 = some [2, 4] := by kernel_rfl
@[go_sem] theorem esc_57 : C.esc 57 = [] := by kernel_rfl
@[go_sem] theorem live_57_0 : C.live 57 0 = some [0, 1, 2] := by kernel_rfl
@[go_sem] theorem live_57_1 : C.live 57 1 = some [0, 1, 2] := by kernel_rfl
@[go_sem] theorem esc_58 : C.esc 58 = [] := by kernel_rfl
@[go_sem] theorem live_58_0 : C.live 58 0 = some [0, 1] := by kernel_rfl
@[go_sem] theorem live_58_1 : C.live 58 1 = some [0, 1] := by kernel_rfl
@[go_sem] theorem live_58_2 : C.live 58 2 = some [11, 1, 10, 0, 12] := by kernel_rfl
@[go_sem] theorem live_58_3 : C.live 58 3 = some [11, 1, 10, 0, 12] := by kernel_rfl
@[go_sem] theorem live_58_4 : C.live 58 4 = some [6, 11, 1, 10, 0, 12] := by kernel_rfl
@[go_sem] theorem live_58_5 : C.live 58 5 = some [11, 1, 10, 0, 12, 7] := by kernel_rfl
@[go_sem] theorem live_58_6 : C.live 58 6 = some [7] := by kernel_rfl
@[go_sem] theorem live_58_7 : C.live 58 7 = some [12, 0, 10, 1, 11] := by kernel_rfl
@[go_sem] theorem live_58_8 : C.live 58 8 = some [1, 0] := by kernel_rfl
@[go_sem] theorem live_58_9 : C.live 58 9 = some [25, 0, 23, 24] := by kernel_rfl
@[go_sem] theorem live_58_10 : C.live 58 10 = some [25, 0, 23, 24] := by kernel_rfl
@[go_sem] theorem live_58_11 : C.live 58 11 = some [9, 25, 0, 23, 24] := by kernel_rfl
@[go_sem] theorem live_58_12 : C.live 58 12 = some [9, 25, 0, 23, 24] := by kernel_rfl
@[go_sem] theorem live_58_13 : C.live 58 13 = some [25, 0, 23, 24] := by kernel_rfl
@[go_sem] theorem live_58_14 : C.live 58 14 = some [] := by kernel_rfl
@[go_sem] theorem esc_59 : C.esc 59 = [] := by kernel_rfl
@[go_sem] theorem live_59_0 : C.live 59 0 = some [0] := by kernel_rfl
@[go_sem] theorem esc_60 : C.esc 60 = [] := by kernel_rfl
@[go_sem] theorem live_60_0 : C.live 60 0 = some [0, 1] := by kernel_rfl
@[go_sem] theorem live_60_1 : C.live 60 1 = some [2, 1] := by kernel_rfl
@[go_sem] theorem esc_61 : C.esc 61 = [] := by kernel_rfl
@[go_sem] theorem live_61_0 : C.live 61 0 = some [0] := by kernel_rfl
@[go_sem] theorem live_61_1 : C.live 61 1 = some [1, 2] := by kernel_rfl
@[go_sem] theorem live_61_2 : C.live 61 2 = some [3, 1, 2] := by kernel_rfl
@[go_sem] theorem live_61_3 : C.live 61 3 = some [3, 1, 2] := by kernel_rfl
@[go_sem] theorem live_61_4 : C.live 61 4 = some [11, 1, 9, 2, 10] := by kernel_rfl
@[go_sem] theorem live_61_5 : C.live 61 5 = some [11, 1, 9, 2, 10] := by kernel_rfl
@[go_sem] theorem live_61_6 : C.live 61 6 = some [5, 11, 1, 9, 2, 10] := by kernel_rfl
@[go_sem] theorem live_61_7 : C.live 61 7 = some [11, 1, 9, 2, 10] := by kernel_rfl
@[go_sem] theorem live_61_8 : C.live 61 8 = some [1, 2] := by kernel_rfl
@[go_sem] theorem esc_62 : C.esc 62 = [] := by kernel_rfl
@[go_sem] theorem live_62_0 : C.live 62 0 = some [1, 0] := by kernel_rfl
@[go_sem] theorem esc_63 : C.esc 63 = [] := by kernel_rfl
@[go_sem] theorem live_63_0 : C.live 63 0 = some [0, 1] := by kernel_rfl
@[go_sem] theorem live_63_1 : C.live 63 1 = some [1, 2] := by kernel_rfl
@[go_sem] theorem live_63_2 : C.live 63 2 = some [] := by kernel_rfl
@[go_sem] theorem live_63_3 : C.live 63 3 = some [2, 1] := by kernel_rfl
@[go_sem] theorem live_63_4 : C.live 63 4 = some [13, 12, 1, 14] := by kernel_rfl
@[go_sem] theorem live_63_5 : C.live 63 5 = some [13, 12, 1, 14] := by kernel_rfl
@[go_sem] theorem live_63_6 : C.live 63 6 = some [6, 13, 12, 1, 14] := by kernel_rfl
@[go_sem] theorem live_63_7 : C.live 63 7 = some [] := by kernel_rfl
@[go_sem] theorem live_63_8 : C.live 63 8 = some [14, 1, 12, 13] := by kernel_rfl
@[go_sem] theorem live_63_9 : C.live 63 9 = some [] := by kernel_rfl
@[go_sem] theorem esc_64 : C.esc 64 = [] := by kernel_rfl
@[go_sem] theorem live_64_0 : C.live 64 0 = some [0, 1] := by kernel_rfl
@[go_sem] theorem live_64_1 : C.live 64 1 = some [0, 1] := by kernel_rfl
@[go_sem] theorem esc_65 : C.esc 65 = [] := by kernel_rfl
@[go_sem] theorem live_65_0 : C.live 65 0 = some [0, 1] := by kernel_rfl
@[go_sem] theorem live_65_1 : C.live 65 1 = some [2, 1] := by kernel_rfl
@[go_sem] theorem esc_66 : C.esc 66 = [] := by kernel_rfl
@[go_sem] theorem live_66_0 : C.live 66 0 = some [1, 0, 2] := by kernel_rfl
@[go_sem] theorem live_66_1 : C.live 66 1 = some [9, 8, 2, 0, 10] := by kernel_rfl
@[go_sem] theorem live_66_2 : C.live 66 2 = some [9, 8, 2, 0, 10] := by kernel_rfl
@[go_sem] theorem live_66_3 : C.live 66 3 = some [9, 8, 2, 0, 10, 7] := by kernel_rfl
@[go_sem] theorem live_66_4 : C.live 66 4 = some [7, 10, 0, 2, 8, 9] := by kernel_rfl
@[go_sem] theorem live_66_5 : C.live 66 5 = some [7, 10, 0, 2, 8, 9] := by kernel_rfl
@[go_sem] theorem live_66_6 : C.live 66 6 = some [7, 10, 0, 2, 8, 9] := by kernel_rfl
@[go_sem] theorem live_66_7 : C.live 66 7 = some [7, 10, 0, 2, 8, 9] := by kernel_rfl
@[go_sem] theorem live_66_8 : C.live 66 8 = some [7, 10, 0, 2, 8, 9] := by kernel_rfl
@[go_sem] theorem live_66_9 : C.live 66 9 = some [7, 10, 0, 2, 8, 9] := by kernel_rfl
@[go_sem] theorem live_66_10 : C.live 66 10 = some [10, 0, 2, 8, 9] := by kernel_rfl
@[go_sem] theorem esc_67 : C.esc 67 = [] := by kernel_rfl
@[go_sem] theorem live_67_0 : C.live 67 0 = some [0] := by kernel_rfl
@[go_sem] theorem live_67_1 : C.live 67 1 = some [0, 2] := by kernel_rfl
@[go_sem] theorem live_67_2 : C.live 67 2 = some [4, 2] := by kernel_rfl
@[go_sem] theorem live_67_3 : C.live 67 3 = some [4, 2] := by kernel_rfl
@[go_sem] theorem live_67_5 : C.live 67 5 = some [4, 2] := by kernel_rfl
@[go_sem] theorem live_67_7 : C.live 67 7 = some [4, 2] := by kernel_rfl
@[go_sem] theorem live_67_8 : C.live 67 8 = some [4, 2] := by kernel_rfl
@[go_sem] theorem live_67_10 : C.live 67 10 = some [4, 2] := by kernel_rfl
@[go_sem] theorem live_67_12 : C.live 67 12 = some [4, 2] := by kernel_rfl
@[go_sem] theorem live_67_14 : C.live 67 14 = some [4, 2] := by kernel_rfl
@[go_sem] theorem live_67_15 : C.live 67 15 = some [2] := by kernel_rfl
@[go_sem] theorem live_67_13 : C.live 67 13 = some [2] := by kernel_rfl
@[go_sem] theorem live_67_11 : C.live 67 11 = some [2] := by kernel_rfl
@[go_sem] theorem live_67_9 : C.live 67 9 = some [2] := by kernel_rfl
@[go_sem] theorem live_67_6 : C.live 67 6 = some [2] := by kernel_rfl
@[go_sem] theorem live_67_4 : C.live 67 4 = some [2] := by kernel_rfl
@[go_sem] theorem live_67_16 : C.live 67 16 = some [2] := by kernel_rfl
@[go_sem] theorem esc_68 : C.esc 68 = [] := by kernel_rfl
@[go_sem] theorem live_68_0 : C.live 68 0 = some [0, 1] := by kernel_rfl
@[go_sem] theorem live_68_1 : C.live 68 1 = some [3, 2] := by kernel_rfl
@[go_sem] theorem live_68_2 : C.live 68 2 = some [] := by kernel_rfl
@[go_sem] theorem live_68_3 : C.live 68 3 = some [2] := by kernel_rfl
@[go_sem] theorem live_68_4 : C.live 68 4 = some [68, 2] := by kernel_rfl
@[go_sem] theorem live_68_6 : C.live 68 6 = some [68, 2] := by kernel_rfl
@[go_sem] theorem live_68_7 : C.live 68 7 = some [2] := by kernel_rfl
@[go_sem] theorem live_68_5 : C.live 68 5 = some [2] := by kernel_rfl
@[go_sem] theorem live_68_8 : C.live 68 8 = some [] := by kernel_rfl
@[go_sem] theorem esc_69 : C.esc 69 = [] := by kernel_rfl
@[go_sem] theorem live_69_0 : C.live 69 0 = some [0] := by kernel_rfl
@[go_sem] theorem live_69_1 : C.live 69 1 = some [1] := by kernel_rfl
@[go_sem] theorem esc_70 : C.esc 70 = [] := by kernel_rfl
@[go_sem] theorem live_70_0 : C.live 70 0 = some [0, 1] := by kernel_rfl
@[go_sem] theorem live_70_1 : C.live 70 1 = some [0, 1] := by kernel_rfl
@[go_sem] theorem esc_71 : C.esc 71 = [] := by kernel_rfl
@[go_sem] theorem live_71_0 : C.live 71 0 = some [0, 1] := by kernel_rfl
@[go_sem] theorem live_71_1 : C.live 71 1 = some [2, 1] := by kernel_rfl
@[go_sem] theorem esc_72 : C.esc 72 = [] := by kernel_rfl
@[go_sem] theorem live_72_0 : C.live 72 0 = some [1, 0] := by kernel_rfl
@[go_sem] theorem live_72_1 : C.live 72 1 = some [3, 0] := by kernel_rfl
@[go_sem] theorem live_72_2 : C.live 72 2 = some [5, 3, 0, 6, 7] := by kernel_rfl
@[go_sem] theorem live_72_3 : C.live 72 3 = some [7] := by kernel_rfl
@[go_sem] theorem live_72_4 : C.live 72 4 = some [6, 0, 3, 5] := by kernel_rfl
@[go_sem] theorem live_72_5 : C.live 72 5 = some [23, 6, 0, 3, 5] := by kernel_rfl
@[go_sem] theorem live_72_7 : C.live 72 7 = some [6, 23, 5, 3, 0] := by kernel_rfl
@[go_sem] theorem live_72_15 : C.live 72 15 = some [3, 0, 23, 5, 6] := by kernel_rfl
@[go_sem] theorem live_72_18 : C.live 72 18 = some [6, 23, 0, 3, 5] := by kernel_rfl
@[go_sem] theorem live_72_21 : C.live 72 21 = some [3, 0, 23, 6, 5] := by kernel_rfl
@[go_sem] theorem live_72_24 : C.live 72 24 = some [6, 23, 5, 0, 3] := by kernel_rfl
@[go_sem] theorem live_72_31 : C.live 72 31 = some [23, 5, 6, 3, 0] := by kernel_rfl
@[go_sem] theorem live_72_32 : C.live 72 32 = some [5, 6, 3, 0] := by kernel_rfl
@[go_sem] theorem live_72_33 : C.live 72 33 = some [] := by kernel_rfl
@[go_sem] theorem live_72_34 : C.live 72 34 = some [0, 3] := by kernel_rfl
@[go_sem] theorem live_72_35 : C.live 72 35 = some [0, 3] := by kernel_rfl
@[go_sem] theorem live_72_36 : C.live 72 36 = some [0, 3] := by kernel_rfl
@[go_sem] theorem live_72_37 : C.live 72 37 = some [0, 3, 11] := by kernel_rfl
@[go_sem] theorem live_72_38 : C.live 72 38 = some [11] := by kernel_rfl
@[go_sem] theorem live_72_25 : C.live 72 25 = some [5, 0, 3] := by kernel_rfl
@[go_sem] theorem live_72_26 : C.live 72 26 = some [] := by kernel_rfl
@[go_sem] theorem live_72_27 : C.live 72 27 = some [3, 0] := by kernel_rfl
@[go_sem] theorem live_72_28 : C.live 72 28 = some [3, 0, 10] := by kernel_rfl
@[go_sem] theorem live_72_29 : C.live 72 29 = some [10] := by kernel_rfl
@[go_sem] theorem live_72_30 : C.live 72 30 = some [0, 3] := by kernel_rfl
@[go_sem] theorem live_72_22 : C.live 72 22 = some [5] := by kernel_rfl
@[go_sem] theorem live_72_23 : C.live 72 23 = some [] := by kernel_rfl
@[go_sem] theorem live_72_19 : C.live 72 19 = some [5] := by kernel_rfl
@[go_sem] theorem live_72_20 : C.live 72 20 = some [] := by kernel_rfl
@[go_sem] theorem live_72_16 : C.live 72 16 = some [5, 6] := by kernel_rfl
@[go_sem] theorem live_72_17 : C.live 72 17 = some [] := by kernel_rfl
@[go_sem] theorem live_72_8 : C.live 72 8 = some [5, 3, 0] := by kernel_rfl
@[go_sem] theorem live_72_9 : C.live 72 9 = some [9, 8, 5, 3, 0] := by kernel_rfl
@[go_sem] theorem live_72_11 : C.live 72 11 = some [0, 3, 5, 8] := by kernel_rfl
@[go_sem] theorem live_72_13 : C.live 72 13 = some [8, 5] := by kernel_rfl
@[go_sem] theorem live_72_14 : C.live 72 14 = some [] := by kernel_rfl
@[go_sem] theorem live_72_12 : C.live 72 12 = some [] := by kernel_rfl
@[go_sem] theorem live_72_10 : C.live 72 10 = some [] := by kernel_rfl
@[go_sem] theorem live_72_6 : C.live 72 6 = some [0, 3, 5] := by kernel_rfl
@[go_sem] theorem live_72_39 : C.live 72 39 = some [] := by kernel_rfl
@[go_sem] theorem esc_73 : C.esc 73 = [] := by kernel_rfl
@[go_sem] theorem live_73_0 : C.live 73 0 = some [0, 1] := by kernel_rfl
@[go_sem] theorem live_73_1 : C.live 73 1 = some [0, 1] := by kernel_rfl
@[go_sem] theorem live_73_2 : C.live 73 2 = some [7, 1, 0, 8] := by kernel_rfl
@[go_sem] theorem live_73_3 : C.live 73 3 = some [7, 1, 0, 8] := by kernel_rfl
@[go_sem] theorem live_73_4 : C.live 73 4 = some [7, 1, 0, 8, 5] := by kernel_rfl
@[go_sem] theorem live_73_5 : C.live 73 5 = some [5] := by kernel_rfl
@[go_sem] theorem live_73_6 : C.live 73 6 = some [8, 0, 1, 7] := by kernel_rfl
@[go_sem] theorem live_73_7 : C.live 73 7 = some [] := by kernel_rfl
@[go_sem] theorem esc_74 : C.esc 74 = [] := by kernel_rfl
@[go_sem] theorem live_74_0 : C.live 74 0 = some [1, 0] := by kernel_rfl
@[go_sem] theorem live_74_1 : C.live 74 1 = some [3, 0] := by kernel_rfl
@[go_sem] theorem live_74_2 : C.live 74 2 = some [0, 3] := by kernel_rfl
@[go_sem] theorem live_74_3 : C.live 74 3 = some [0, 3] := by kernel_rfl
@[go_sem] theorem esc_75 : C.esc 75 = [] := by kernel_rfl
@[go_sem] theorem live_75_0 : C.live 75 0 = some [0] := by kernel_rfl
@[go_sem] theorem live_75_1 : C.live 75 1 = some [1] := by kernel_rfl
@[go_sem] theorem esc_76 : C.esc 76 = [] := by kernel_rfl
@[go_sem] theorem live_76_0 : C.live 76 0 = some [0, 1] := by kernel_rfl
@[go_sem] theorem live_76_1 : C.live 76 1 = some [1, 2] := by kernel_rfl
@[go_sem] theorem live_76_2 : C.live 76 2 = some [1, 2, 5] := by kernel_rfl
@[go_sem] theorem live_76_3 : C.live 76 3 = some [5] := by kernel_rfl
@[go_sem] theorem live_76_4 : C.live 76 4 = some [2, 1] := by kernel_rfl
@[go_sem] theorem live_76_5 : C.live 76 5 = some [17, 16, 1, 18] := by kernel_rfl
@[go_sem] theorem live_76_6 : C.live 76 6 = some [17, 16, 1, 18] := by kernel_rfl
@[go_sem] theorem live_76_7 : C.live 76 7 = some [7, 17, 16, 1, 18] := by kernel_rfl
@[go_sem] theorem live_76_8 : C.live 76 8 = some [17, 16, 1, 18, 8] := by kernel_rfl
@[go_sem] theorem live_76_9 : C.live 76 9 = some [8] := by kernel_rfl
@[go_sem] theorem live_76_10 : C.live 76 10 = some [18, 1, 16, 17] := by kernel_rfl
@[go_sem] theorem live_76_11 : C.live 76 11 = some [] := by kernel_rfl
@[go_sem] theorem esc_77 : C.esc 77 = [] := by kernel_rfl
@[go_sem] theorem live_77_0 : C.live 77 0 = some [0, 1] := by kernel_rfl
@[go_sem] theorem live_77_1 : C.live 77 1 = some [0, 1] := by kernel_rfl
@[go_sem] theorem live_77_2 : C.live 77 2 = some [7, 1, 0, 8] := by kernel_rfl
@[go_sem] theorem live_77_3 : C.live 77 3 = some [7, 1, 0, 8] := by kernel_rfl
@[go_sem] theorem live_77_4 : C.live 77 4 = some [7, 1, 0, 8, 5] := by kernel_rfl
@[go_sem] theorem live_77_5 : C.live 77 5 = some [5] := by kernel_rfl
@[go_sem] theorem live_77_6 : C.live 77 6 = some [8, 0, 1, 7] := by kernel_rfl
@[go_sem] theorem live_77_7 : C.live 77 7 = some [] := by kernel_rfl
@[go_sem] theorem esc_78 : C.esc 78 = [] := by kernel_rfl
@[go_sem] theorem live_78_0 : C.live 78 0 = some [1, 0] := by kernel_rfl
@[go_sem] theorem live_78_1 : C.live 78 1 = some [0, 3, 5] := by kernel_rfl
@[go_sem] theorem live_78_2 : C.live 78 2 = some [] := by kernel_rfl
@[go_sem] theorem live_78_3 : C.live 78 3 = some [5, 3, 0] := by kernel_rfl
@[go_sem] theorem live_78_4 : C.live 78 4 = some [6, 5, 3, 0, 4] := by kernel_rfl
@[go_sem] theorem live_78_5 : C.live 78 5 = some [3, 0, 4] := by kernel_rfl
@[go_sem] theorem live_78_6 : C.live 78 6 = some [4, 5, 6] := by kernel_rfl
@[go_sem] theorem esc_79 : C.esc 79 = [] := by kernel_rfl
@[go_sem] theorem live_79_0 : C.live 79 0 = some [1, 0] := by kernel_rfl
@[go_sem] theorem live_79_1 : C.live 79 1 = some [0, 3] := by kernel_rfl
@[go_sem] theorem live_79_2 : C.live 79 2 = some [3, 0] := by kernel_rfl
@[go_sem] theorem live_79_3 : C.live 79 3 = some [3, 0] := by kernel_rfl
@[go_sem] theorem live_79_4 : C.live 79 4 = some [21, 0, 19, 20] := by kernel_rfl
@[go_sem] theorem live_79_5 : C.live 79 5 = some [21, 0, 19, 20] := by kernel_rfl
@[go_sem] theorem live_79_6 : C.live 79 6 = some [5, 21, 0, 19, 20] := by kernel_rfl
@[go_sem] theorem live_79_7 : C.live 79 7 = some [21, 0, 19, 20] := by kernel_rfl
@[go_sem] theorem esc_80 : C.esc 80 = [] := by kernel_rfl
@[go_sem] theorem live_80_0 : C.live 80 0 = some [0, 1] := by kernel_rfl
@[go_sem] theorem live_80_1 : C.live 80 1 = some [2, 1] := by kernel_rfl
@[go_sem] theorem live_80_2 : C.live 80 2 = some [2, 5, 1] := by kernel_rfl
@[go_sem] theorem live_80_4 : C.live 80 4 = some [1, 5, 2] := by kernel_rfl
@[go_sem] theorem live_80_6 : C.live 80 6 = some [2, 5, 1] := by kernel_rfl
@[go_sem] theorem live_80_8 : C.live 80 8 = some [1] := by kernel_rfl
@[go_sem] theorem live_80_9 : C.live 80 9 = some [] := by kernel_rfl
@[go_sem] theorem live_80_7 : C.live 80 7 = some [] := by kernel_rfl
@[go_sem] theorem live_80_5 : C.live 80 5 = some [] := by kernel_rfl
@[go_sem] theorem live_80_3 : C.live 80 3 = some [] := by kernel_rfl
@[go_sem] theorem live_80_10 : C.live 80 10 = some [] := by kernel_rfl
@[go_sem] theorem esc_81 : C.esc 81 = [] := by kernel_rfl
@[go_sem] theorem live_81_0 : C.live 81 0 = some [0, 1] := by kernel_rfl
@[go_sem] theorem live_81_1 : C.live 81 1 = some [1, 2] := by kernel_rfl
@[go_sem] theorem live_81_2 : C.live 81 2 = some [1, 2] := by kernel_rfl
@[go_sem] theorem live_81_3 : C.live 81 3 = some [7, 6] := by kernel_rfl
@[go_sem] theorem live_81_5 : C.live 81 5 = some [6] := by kernel_rfl
@[go_sem] theorem live_81_6 : C.live 81 6 = some [] := by kernel_rfl
@[go_sem] theorem live_81_4 : C.live 81 4 = some [] := by kernel_rfl
@[go_sem] theorem live_81_7 : C.live 81 7 = some [6] := by kernel_rfl
@[go_sem] theorem live_81_8 : C.live 81 8 = some [1, 2] := by kernel_rfl
@[go_sem] theorem live_81_9 : C.live 81 9 = some [8, 1, 2] := by kernel_rfl
@[go_sem] theorem live_81_10 : C.live 81 10 = some [40, 2, 39, 1, 41, 8] := by kernel_rfl
@[go_sem] theorem live_81_11 : C.live 81 11 = some [40, 2, 39, 1, 41, 8] := by kernel_rfl
@[go_sem] theorem live_81_12 : C.live 81 12 = some [10, 40, 2, 39, 1, 41, 8] := by kernel_rfl
@[go_sem] theorem live_81_13 : C.live 81 13 = some [40, 2, 39, 1, 41, 11, 8, 12] := by kernel_rfl
@[go_sem] theorem live_81_14 : C.live 81 14 = some [12] := by kernel_rfl
@[go_sem] theorem live_81_15 : C.live 81 15 = some [8, 11, 41, 1, 39, 2, 40] := by kernel_rfl
@[go_sem] theorem live_81_16 : C.live 81 16 = some [41, 8, 1, 39, 2, 40] := by kernel_rfl
@[go_sem] theorem live_81_17 : C.live 81 17 = some [2, 8] := by kernel_rfl
@[go_sem] theorem live_81_18 : C.live 81 18 = some [2, 8] := by kernel_rfl
@[go_sem] theorem live_81_19 : C.live 81 19 = some [] := by kernel_rfl
@[go_sem] theorem live_81_20 : C.live 81 20 = some [] := by kernel_rfl
@[go_sem] theorem live_81_21 : C.live 81 21 = some [2, 8] := by kernel_rfl
@[go_sem] theorem live_81_22 : C.live 81 22 = some [8, 13, 14] := by kernel_rfl
@[go_sem] theorem live_81_23 : C.live 81 23 = some [90, 14, 89, 13, 91] := by kernel_rfl
@[go_sem] theorem live_81_24 : C.live 81 24 = some [90, 14, 89, 13, 91] := by kernel_rfl
@[go_sem] theorem live_81_25 : C.live 81 25 = some [16, 90, 14, 89, 13, 91] := by kernel_rfl
@[go_sem] theorem live_81_26 : C.live 81 26 = some [] := by kernel_rfl
@[go_sem] theorem live_81_27 : C.live 81 27 = some [91, 13, 89, 14, 90] := by kernel_rfl
@[go_sem] theorem live_81_28 : C.live 81 28 = some [14] := by kernel_rfl
@[go_sem] theorem esc_82 : C.esc 82 = [] := by kernel_rfl
@[go_sem] theorem live_82_0 : C.live 82 0 = some [0] := by kernel_rfl
@[go_sem] theorem live_82_1 : C.live 82 1 = some [0] := by kernel_rfl
@[go_sem] theorem live_82_3 : C.live 82 3 = some [0] := by kernel_rfl
@[go_sem] theorem live_82_5 : C.live 82 5 = some [0] := by kernel_rfl
@[go_sem] theorem live_82_6 : C.live 82 6 = some [] := by kernel_rfl
@[go_sem] theorem live_82_4 : C.live 82 4 = some [] := by kernel_rfl
@[go_sem] theorem live_82_2 : C.live 82 2 = some [] := by kernel_rfl
@[go_sem] theorem live_82_7 : C.live 82 7 = some [] := by kernel_rfl
@[go_sem] theorem esc_83 : C.esc 83 = [] := by kernel_rfl
@[go_sem] theorem live_83_0 : C.live 83 0 = some [0] := by kernel_rfl
@[go_sem] theorem live_83_1 : C.live 83 1 = some [0] := by kernel_rfl
@[go_sem] theorem live_83_2 : C.live 83 2 = some [0, 3] := by kernel_rfl
@[go_sem] theorem live_83_4 : C.live 83 4 = some [0, 3] := by kernel_rfl
@[go_sem] theorem live_83_5 : C.live 83 5 = some [] := by kernel_rfl
@[go_sem] theorem live_83_3 : C.live 83 3 = some [3, 0] := by kernel_rfl
@[go_sem] theorem live_83_6 : C.live 83 6 = some [0] := by kernel_rfl
@[go_sem] theorem esc_84 : C.esc 84 = [] := by kernel_rfl
@[go_sem] theorem live_84_0 : C.live 84 0 = some [1, 0] := by kernel_rfl
@[go_sem] theorem live_84_1 : C.live 84 1 = some [1, 0] := by kernel_rfl
@[go_sem] theorem esc_85 : C.esc 85 = [] := by kernel_rfl
@[go_sem] theorem live_85_0 : C.live 85 0 = some [0] := by kernel_rfl
@[go_sem] theorem live_85_1 : C.live 85 1 = some [0] := by kernel_rfl
@[go_sem] theorem live_85_2 : C.live 85 2 = some [4] := by kernel_rfl
@[go_sem] theorem live_85_3 : C.live 85 3 = some [4] := by kernel_rfl
@[go_sem] theorem live_85_4 : C.live 85 4 = some [4] := by kernel_rfl
@[go_sem] theorem live_85_5 : C.live 85 5 = some [4] := by kernel_rfl
@[go_sem] theorem live_85_6 : C.live 85 6 = some [4] := by kernel_rfl
@[go_sem] theorem live_85_7 : C.live 85 7 = some [4] := by kernel_rfl
@[go_sem] theorem live_85_8 : C.live 85 8 = some [4] := by kernel_rfl
@[go_sem] theorem live_85_9 : C.live 85 9 = some [4] := by kernel_rfl
@[go_sem] theorem live_85_10 : C.live 85 10 = some [4] := by kernel_rfl
@[go_sem] theorem live_85_11 : C.live 85 11 = some [4] := by kernel_rfl
@[go_sem] theorem live_85_13 : C.live 85 13 = some [4] := by kernel_rfl
@[go_sem] theorem live_85_14 : C.live 85 14 = some [4] := by kernel_rfl
@[go_sem] theorem live_85_15 : C.live 85 15 = some [4] := by kernel_rfl
@[go_sem] theorem live_85_17 : C.live 85 17 = some [4] := by kernel_rfl
@[go_sem] theorem live_85_18 : C.live 85 18 = some [4] := by kernel_rfl
@[go_sem] theorem live_85_19 : C.live 85 19 = some [4] := by kernel_rfl
@[go_sem] theorem live_85_21 : C.live 85 21 = some [4] := by kernel_rfl
@[go_sem] theorem live_85_23 : C.live 85 23 = some [4] := by kernel_rfl
@[go_sem] theorem live_85_24 : C.live 85 24 = some [4] := by kernel_rfl
@[go_sem] theorem live_85_25 : C.live 85 25 = some [] := by kernel_rfl
@[go_sem] theorem live_85_22 : C.live 85 22 = some [] := by kernel_rfl
@[go_sem] theorem live_85_20 : C.live 85 20 = some [] := by kernel_rfl
@[go_sem] theorem live_85_16 : C.live 85 16 = some [] := by kernel_rfl
@[go_sem] theorem live_85_12 : C.live 85 12 = some [] := by kernel_rfl
@[go_sem] theorem live_85_26 : C.live 85 26 = some [] := by kernel_rfl
@[go_sem] theorem kind_25 : kindT Try.prog 25 = some (3, true) := by kernel_rfl
@[go_sem] theorem len_26 : lenT Try.prog 26 = 2 := by kernel_rfl
@[go_sem] theorem bool_3 : boolT Try.prog 3 = false := by kernel_rfl
@[go_sem] theorem bool_28 : boolT Try.prog 28 = false := by kernel_rfl
@[go_sem] theorem zero_34 : zeroT Try.prog 34 = some (.agg [.d (.int .i64 0), .d (.int .i64 0), .d (.int .i64 0), .d (.int .i64 0), .nilS]) := by kernel_rfl
@[go_sem] theorem fields_34 : fieldsT Try.prog 34 = some [(0, 4), (4, 1)] := by kernel_rfl
@[go_sem] theorem field_25_2 : fieldT Try.prog 25 2 = some (2, 1, false) := by kernel_rfl
@[go_sem] theorem kind_23 : kindT Try.prog 23 = some (1, false) := by kernel_rfl
@[go_sem] theorem kind_34 : kindT Try.prog 34 = some (5, true) := by kernel_rfl
@[go_sem] theorem zero_32 : zeroT Try.prog 32 = some (.agg [.d (.int .i64 0), .d (.int .i64 0), .d (.int .i64 0), .d (.int .i64 0)]) := by kernel_rfl
@[go_sem] theorem kind_32 : kindT Try.prog 32 = some (4, true) := by kernel_rfl
@[go_sem] theorem field_34_0 : fieldT Try.prog 34 0 = some (0, 4, true) := by kernel_rfl
@[go_sem] theorem field_32_0 : fieldT Try.prog 32 0 = some (0, 1, false) := by kernel_rfl
@[go_sem] theorem kind_3 : kindT Try.prog 3 = some (1, false) := by kernel_rfl
@[go_sem] theorem field_32_1 : fieldT Try.prog 32 1 = some (1, 1, false) := by kernel_rfl
@[go_sem] theorem field_32_2 : fieldT Try.prog 32 2 = some (2, 1, false) := by kernel_rfl
@[go_sem] theorem field_32_3 : fieldT Try.prog 32 3 = some (3, 1, false) := by kernel_rfl
@[go_sem] theorem len_9 : lenT Try.prog 9 = 1 := by kernel_rfl
@[go_sem] theorem field_25_0 : fieldT Try.prog 25 0 = some (0, 1, false) := by kernel_rfl
@[go_sem] theorem kind_9 : kindT Try.prog 9 = some (1, false) := by kernel_rfl
@[go_sem] theorem field_25_1 : fieldT Try.prog 25 1 = some (1, 1, false) := by kernel_rfl
@[go_sem] theorem kind_22 : kindT Try.prog 22 = some (1, false) := by kernel_rfl
@[go_sem] theorem zero_40 : zeroT Try.prog 40 = some (.agg [.d (.int .i64 0), .d (.int .i64 0), .d (.str []), .nilS]) := by kernel_rfl
@[go_sem] theorem fields_40 : fieldsT Try.prog 40 = some [(0, 1), (1, 1), (2, 1), (3, 1)] := by kernel_rfl
@[go_sem] theorem zero_42 : zeroT Try.prog 42 = some (.agg [.d (.int .i64 0), .d (.str []), .d (.int .i64 0), .d (.int .i64 0), .d (.int .i64 0), .d (.str []), .nilS, .d (.int .i64 0), .d (.int .i64 0), .d (.str []), .nilS, .nilS, .nilS]) := by kernel_rfl
@[go_sem] theorem fields_42 : fieldsT Try.prog 42 = some [(0, 1), (1, 1), (2, 1), (3, 4), (7, 4), (11, 1), (12, 1)] := by kernel_rfl
@[go_sem] theorem elem_23 : elemT Try.prog 23 = some (42, 13) := by kernel_rfl
@[go_sem] theorem zero_25 : zeroT Try.prog 25 = some (.agg [.d (.str []), .nilS, .nilS]) := by kernel_rfl
@[go_sem] theorem fields_25 : fieldsT Try.prog 25 = some [(0, 1), (1, 1), (2, 1)] := by kernel_rfl
@[go_sem] theorem fields_32 : fieldsT Try.prog 32 = some [(0, 1), (1, 1), (2, 1), (3, 1)] := by kernel_rfl
@[go_sem] theorem bool_32 : boolT Try.prog 32 = false := by kernel_rfl
@[go_sem] theorem flat_32 : flatT Try.prog 32 = some [1, 1, 1, 1] := by kernel_rfl
@[go_sem] theorem len_22 : lenT Try.prog 22 = 2 := by kernel_rfl
@[go_sem] theorem arr_22 : arrT Try.prog 22 = none := by kernel_rfl
@[go_sem] theorem elem_22 : elemT Try.prog 22 = some (48, 2) := by kernel_rfl
@[go_sem] theorem field_48_0 : fieldT Try.prog 48 0 = some (0, 1, false) := by kernel_rfl
@[go_sem] theorem zero_51 : zeroT Try.prog 51 = some (.agg [.d (.int .i64 0), .d (.int .i64 0), .d (.int .i64 0), .d (.int .i64 0)]) := by kernel_rfl
@[go_sem] theorem kind_51 : kindT Try.prog 51 = some (4, true) := by kernel_rfl
@[go_sem] theorem arr_51 : arrT Try.prog 51 = some (4, 1, false) := by kernel_rfl
@[go_sem] theorem elem_51 : elemT Try.prog 51 = none := by kernel_rfl
@[go_sem] theorem kind_40 : kindT Try.prog 40 = some (4, true) := by kernel_rfl
@[go_sem] theorem elem_38 : elemT Try.prog 38 = some (40, 4) := by kernel_rfl
@[go_sem] theorem kind_42 : kindT Try.prog 42 = some (13, true) := by kernel_rfl
@[go_sem] theorem zero_48 : zeroT Try.prog 48 = some (.agg [.d (.str []), .d (.int .i64 0)]) := by kernel_rfl
@[go_sem] theorem fields_48 : fieldsT Try.prog 48 = some [(0, 1), (1, 1)] := by kernel_rfl
@[go_sem] theorem len_23 : lenT Try.prog 23 = 2 := by kernel_rfl
@[go_sem] theorem arr_23 : arrT Try.prog 23 = none := by kernel_rfl
@[go_sem] theorem field_42_0 : fieldT Try.prog 42 0 = some (0, 1, false) := by kernel_rfl
@[go_sem] theorem field_42_5 : fieldT Try.prog 42 5 = some (11, 1, false) := by kernel_rfl
@[go_sem] theorem field_42_6 : fieldT Try.prog 42 6 = some (12, 1, false) := by kernel_rfl
@[go_sem] theorem field_42_2 : fieldT Try.prog 42 2 = some (2, 1, false) := by kernel_rfl
@[go_sem] theorem zero_65 : zeroT Try.prog 65 = some (.agg [.d (.str []), .d (.str [])]) := by kernel_rfl
@[go_sem] theorem fields_65 : fieldsT Try.prog 65 = some [(0, 1), (1, 1)] := by kernel_rfl
@[go_sem] theorem kind_65 : kindT Try.prog 65 = some (2, true) := by kernel_rfl
@[go_sem] theorem kind_48 : kindT Try.prog 48 = some (2, true) := by kernel_rfl
@[go_sem] theorem field_48_1 : fieldT Try.prog 48 1 = some (1, 1, false) := by kernel_rfl
@[go_sem] theorem room_48_2 : aroomT Try.prog 48 2 = true := by kernel_rfl
@[go_sem] theorem field_42_1 : fieldT Try.prog 42 1 = some (1, 1, false) := by kernel_rfl
@[go_sem] theorem field_42_3 : fieldT Try.prog 42 3 = some (3, 4, true) := by kernel_rfl
@[go_sem] theorem field_42_4 : fieldT Try.prog 42 4 = some (7, 4, true) := by kernel_rfl
@[go_sem] theorem field_34_1 : fieldT Try.prog 34 1 = some (4, 1, false) := by kernel_rfl
@[go_sem] theorem kind_26 : kindT Try.prog 26 = some (1, false) := by kernel_rfl
@[go_sem] theorem arr_26 : arrT Try.prog 26 = none := by kernel_rfl
@[go_sem] theorem elem_26 : elemT Try.prog 26 = some (3, 1) := by kernel_rfl
@[go_sem] theorem str_26 : strT Try.prog 26 = false := by kernel_rfl
@[go_sem] theorem zero_3 : zeroT Try.prog 3 = some (.d (.int .i64 0)) := by kernel_rfl
@[go_sem] theorem zero_4 : zeroT Try.prog 4 = some (.d (.bool false)) := by kernel_rfl
@[go_sem] theorem kind_4 : kindT Try.prog 4 = some (1, false) := by kernel_rfl
@[go_sem] theorem len_38 : lenT Try.prog 38 = 2 := by kernel_rfl
@[go_sem] theorem arr_38 : arrT Try.prog 38 = none := by kernel_rfl
@[go_sem] theorem zero_28 : zeroT Try.prog 28 = some (.d (.int .i64 0)) := by kernel_rfl
@[go_sem] theorem kind_28 : kindT Try.prog 28 = some (1, false) := by kernel_rfl
@[go_sem] theorem bool_9 : boolT Try.prog 9 = false := by kernel_rfl
@[go_sem] theorem str_9 : strT Try.prog 9 = true := by kernel_rfl
@[go_sem] theorem arr_9 : arrT Try.prog 9 = none := by kernel_rfl
@[go_sem] theorem conv_5_21 : convT Try.prog 5 21 = some .i32 := by kernel_rfl
@[go_sem] theorem str_5 : strT Try.prog 5 = false := by kernel_rfl
@[go_sem] theorem str_21 : strT Try.prog 21 = false := by kernel_rfl
@[go_sem] theorem zero_61 : zeroT Try.prog 61 = some (.nilS) := by kernel_rfl
@[go_sem] theorem kind_61 : kindT Try.prog 61 = some (1, false) := by kernel_rfl
@[go_sem] theorem elem_61 : elemT Try.prog 61 = some (9, 1) := by kernel_rfl
@[go_sem] theorem zero_9 : zeroT Try.prog 9 = some (.d (.str [])) := by kernel_rfl
@[go_sem] theorem room_9_1 : aroomT Try.prog 9 1 = true := by kernel_rfl
@[go_sem] theorem room_42_13 : aroomT Try.prog 42 13 = true := by kernel_rfl
@[go_sem] theorem field_65_0 : fieldT Try.prog 65 0 = some (0, 1, false) := by kernel_rfl
@[go_sem] theorem field_65_1 : fieldT Try.prog 65 1 = some (1, 1, false) := by kernel_rfl
@[go_sem] theorem field_40_2 : fieldT Try.prog 40 2 = some (2, 1, false) := by kernel_rfl
@[go_sem] theorem field_40_3 : fieldT Try.prog 40 3 = some (3, 1, false) := by kernel_rfl
@[go_sem] theorem kind_38 : kindT Try.prog 38 = some (1, false) := by kernel_rfl
@[go_sem] theorem str_51 : strT Try.prog 51 = false := by kernel_rfl
@[go_sem] theorem field_40_0 : fieldT Try.prog 40 0 = some (0, 1, false) := by kernel_rfl
@[go_sem] theorem map_74 : mapT Try.prog 74 = some (2, 3) := by kernel_rfl
@[go_sem] theorem map_94 : mapT Try.prog 94 = some (2, 4) := by kernel_rfl
@[go_sem] theorem zero_96 : zeroT Try.prog 96 = some (.agg [.nilM, .nilM, .nilM]) := by kernel_rfl
@[go_sem] theorem fields_96 : fieldsT Try.prog 96 = some [(0, 1), (1, 1), (2, 1)] := by kernel_rfl
@[go_sem] theorem len_61 : lenT Try.prog 61 = 2 := by kernel_rfl
@[go_sem] theorem arr_61 : arrT Try.prog 61 = none := by kernel_rfl
@[go_sem] theorem field_96_2 : fieldT Try.prog 96 2 = some (2, 1, false) := by kernel_rfl
@[go_sem] theorem kind_74 : kindT Try.prog 74 = some (1, false) := by kernel_rfl
@[go_sem] theorem zero_38 : zeroT Try.prog 38 = some (.nilS) := by kernel_rfl
@[go_sem] theorem str_22 : strT Try.prog 22 = false := by kernel_rfl
@[go_sem] theorem zero_105 : zeroT Try.prog 105 = some (.agg [.d (.int .i64 0), .nilF, .nilF]) := by kernel_rfl
@[go_sem] theorem fields_105 : fieldsT Try.prog 105 = some [(0, 1), (1, 1), (2, 1)] := by kernel_rfl
@[go_sem] theorem field_105_0 : fieldT Try.prog 105 0 = some (0, 1, false) := by kernel_rfl
@[go_sem] theorem zero_108 : zeroT Try.prog 108 = some (.agg [.d (.bool false), .d (.bool false), .d (.bool false), .d (.bool false), .d (.bool false), .d (.bool false)]) := by kernel_rfl
@[go_sem] theorem kind_108 : kindT Try.prog 108 = some (6, true) := by kernel_rfl
@[go_sem] theorem field_108_0 : fieldT Try.prog 108 0 = some (0, 1, false) := by kernel_rfl
@[go_sem] theorem field_108_1 : fieldT Try.prog 108 1 = some (1, 1, false) := by kernel_rfl
@[go_sem] theorem field_108_2 : fieldT Try.prog 108 2 = some (2, 1, false) := by kernel_rfl
@[go_sem] theorem bool_21 : boolT Try.prog 21 = false := by kernel_rfl
@[go_sem] theorem room_40_4 : aroomT Try.prog 40 4 = true := by kernel_rfl
@[go_sem] theorem field_96_0 : fieldT Try.prog 96 0 = some (0, 1, false) := by kernel_rfl
@[go_sem] theorem field_105_1 : fieldT Try.prog 105 1 = some (1, 1, false) := by kernel_rfl
@[go_sem] theorem kind_85 : kindT Try.prog 85 = some (1, false) := by kernel_rfl
@[go_sem] theorem fields_108 : fieldsT Try.prog 108 = some [(0, 1), (1, 1), (2, 1), (3, 1), (4, 1), (5, 1)] := by kernel_rfl
@[go_sem] theorem field_108_3 : fieldT Try.prog 108 3 = some (3, 1, false) := by kernel_rfl
@[go_sem] theorem field_108_4 : fieldT Try.prog 108 4 = some (4, 1, false) := by kernel_rfl
@[go_sem] theorem field_108_5 : fieldT Try.prog 108 5 = some (5, 1, false) := by kernel_rfl
@[go_sem] theorem field_96_1 : fieldT Try.prog 96 1 = some (1, 1, false) := by kernel_rfl
@[go_sem] theorem kind_94 : kindT Try.prog 94 = some (1, false) := by kernel_rfl
@[go_sem] theorem field_105_2 : fieldT Try.prog 105 2 = some (2, 1, false) := by kernel_rfl
@[go_sem] theorem kind_86 : kindT Try.prog 86 = some (1, false) := by kernel_rfl
@[go_sem] theorem field_40_1 : fieldT Try.prog 40 1 = some (1, 1, false) := by kernel_rfl
@[go_sem] theorem kind_2 : kindT Try.prog 2 = some (1, false) := by kernel_rfl
@[go_sem] theorem bool_2 : boolT Try.prog 2 = false := by kernel_rfl
@[go_sem] theorem room_3_1 : aroomT Try.prog 3 1 = true := by kernel_rfl
@[go_sem] theorem bool_5 : boolT Try.prog 5 = false := by kernel_rfl
end Go.Proofs.Ytencofeioaonpaa
