/- Facts of this program that the walks look up: which slots live on, which escape, how wide the types are. -/
import Derived.Test.YtdcmimpjmngdlaaGreatProg
import Derived.KernelRfl
import Derived.Test.YtdcmimpjmngdlaaGreatGenC
import Derived.Test.YtdcmimpjmngdlaaGreatGenB
set_option linter.unusedVariables false
set_option linter.unusedSimpArgs false
set_option linter.all false
set_option linter.deprecated false
set_option linter.unusedVariables false
set_option linter.all false
namespace Go.Proofs.YtdcmimpjmngdlaaGreat
open Go.Abs
def escT (f : Nat) : List Nat := bif Nat.blt f 61 then (bif Nat.blt f 30 then (bif Nat.blt f 15 then ([]) else (bif Nat.blt f 22 then (bif Nat.blt f 18 then ([]) else (bif Nat.blt f 20 then (bif Nat.blt f 19 then ([]) else ([10])) else (bif Nat.blt f 21 then ([2]) else ([])))) else (bif Nat.blt f 26 then ([]) else (bif Nat.blt f 28 then (bif Nat.blt f 27 then ([2]) else ([])) else (bif Nat.blt f 29 then ([3]) else ([21])))))) else (bif Nat.blt f 45 then (bif Nat.blt f 37 then ([]) else (bif Nat.blt f 41 then ([]) else (bif Nat.blt f 43 then ([]) else (bif Nat.blt f 44 then ([11]) else ([]))))) else (bif Nat.blt f 53 then (bif Nat.blt f 49 then (bif Nat.blt f 47 then (bif Nat.blt f 46 then ([]) else ([3])) else ([])) else ([])) else ([])))) else (bif Nat.blt f 91 then (bif Nat.blt f 76 then (bif Nat.blt f 68 then (bif Nat.blt f 64 then (bif Nat.blt f 62 then ([]) else (bif Nat.blt f 63 then ([4]) else ([]))) else ([])) else ([])) else ([])) else ([]))
def liveL (f : Nat) : List (Nat × List Nat) := bif Nat.blt f 61 then (bif Nat.blt f 30 then (bif Nat.blt f 15 then (bif Nat.blt f 7 then (bif Nat.blt f 3 then (bif Nat.blt f 1 then ([]) else (bif Nat.blt f 2 then ([]) else ([(0, [])]))) else (bif Nat.blt f 5 then (bif Nat.blt f 4 then ([(0, [0]), (1, [1]), (2, []), (3, [1])]) else ([(0, [0, 1]), (1, [1, 2]), (2, []), (3, [2, 1]), (4, [1, 2, 5]), (6, [1, 2, 5]), (7, []), (5, [5, 2, 1]), (8, [2, 1])])) else (bif Nat.blt f 6 then ([(0, []), (1, []), (2, [1]), (3, [2, 1]), (4, [1, 3]), (5, [3, 4]), (6, [3, 4, 5])]) else ([(0, [0]), (1, [1])])))) else (bif Nat.blt f 11 then (bif Nat.blt f 9 then (bif Nat.blt f 8 then ([(0, [0]), (1, [1]), (2, []), (3, [1]), (4, [1, 3]), (5, [3, 4]), (6, [5, 3, 4]), (8, [5, 3, 4]), (9, [5, 3, 4, 6]), (10, []), (11, [6, 4, 3, 5]), (12, []), (7, [5, 3, 4]), (13, [])]) else ([(0, [0]), (1, [1])])) else (bif Nat.blt f 10 then ([(0, [0]), (1, [1]), (2, []), (3, [1]), (4, [1, 3]), (5, [3, 4]), (6, [4, 3, 5]), (8, [4, 3, 5]), (9, [6, 4, 3, 5]), (10, []), (7, [5, 3, 4]), (11, [])]) else ([(0, [0]), (1, [1])]))) else (bif Nat.blt f 13 then (bif Nat.blt f 12 then ([(0, [0]), (1, [1])]) else ([(0, [1, 0]), (1, [1, 0]), (2, [1, 0, 5]), (3, [5, 6, 1, 0]), (5, [5, 6, 1, 0]), (6, [5, 6, 1, 0]), (7, [5, 6, 1, 0]), (8, [5, 6, 1, 0]), (9, [5, 6, 1, 0]), (4, [6, 1, 0, 5]), (10, [5])])) else (bif Nat.blt f 14 then ([(0, [0]), (1, [0, 2])]) else ([(0, [1, 0]), (1, [0, 3, 4])]))))) else (bif Nat.blt f 22 then (bif Nat.blt f 18 then (bif Nat.blt f 16 then ([(0, [0]), (1, [0, 2])]) else (bif Nat.blt f 17 then ([(0, [0, 1]), (1, [0, 1]), (2, []), (3, [1, 0]), (4, [0, 1, 5]), (6, [0, 1, 5]), (7, []), (5, [5, 1, 0]), (8, [])]) else ([(0, [0]), (1, [1]), (2, []), (3, [1]), (4, [1, 3]), (5, [1, 4, 3]), (6, [4, 15, 3, 13, 14]), (7, [4, 15, 3, 13, 14]), (8, [4, 6, 15, 3, 13, 14]), (9, [4, 6, 15, 3, 13, 14]), (10, [15, 4, 3, 13, 14]), (11, [4])]))) else (bif Nat.blt f 20 then (bif Nat.blt f 19 then ([(0, [0]), (1, [1]), (2, [4])]) else ([(0, [0]), (1, [1]), (2, [3, 1]), (3, [14, 3, 12, 1, 13]), (4, [14, 3, 12, 1, 13]), (5, [5, 14, 3, 12, 1, 13]), (6, [14, 3, 12, 1, 13]), (7, [1, 3]), (8, [6, 1, 3]), (9, [1, 3]), (10, [1, 3, 6]), (11, [3])])) else (bif Nat.blt f 21 then ([(0, [0, 1]), (1, [1, 2])]) else ([(0, [0]), (1, [1]), (2, [1, 3]), (3, [3]), (4, [1]), (5, [1, 4]), (6, [4, 1, 5]), (8, [4, 1, 5]), (9, []), (10, [5, 1, 4]), (7, [5, 1, 4]), (11, [4, 1]), (12, [6, 4, 1]), (13, [7, 6, 4, 1]), (15, [7, 6, 4, 1]), (16, [1, 4, 6, 7, 8]), (18, [1, 4, 6, 7, 8]), (19, []), (17, [8, 7, 6, 4, 1]), (14, [7, 6, 4, 1]), (20, [4, 1])])))) else (bif Nat.blt f 26 then (bif Nat.blt f 24 then (bif Nat.blt f 23 then ([(0, [0]), (1, [1]), (2, [3, 1]), (3, [4, 3, 1]), (4, [3, 1]), (5, [3, 1, 4]), (6, [3])]) else ([(0, [0]), (1, [1])])) else (bif Nat.blt f 25 then ([(0, [0, 1]), (1, [2, 1]), (2, []), (3, [1, 2]), (4, [2, 1, 5]), (6, [2, 1, 5]), (7, []), (5, [5, 1, 2]), (8, [])]) else ([(0, [0]), (1, [0])]))) else (bif Nat.blt f 28 then (bif Nat.blt f 27 then ([(0, [0, 1]), (1, [1, 2])]) else ([(0, [0, 1]), (1, [1, 2]), (2, [5, 1, 2]), (3, [5, 6, 1, 2]), (5, [5, 6, 1, 2]), (4, [6, 5, 1, 2]), (6, [5])])) else (bif Nat.blt f 29 then ([(0, [0]), (1, [1]), (2, [3, 1]), (3, [9, 3, 7, 1, 8]), (4, [9, 3, 7, 1, 8]), (5, [5, 9, 3, 7, 1, 8]), (6, [9, 3, 7, 1, 8]), (7, [1, 3]), (8, [3])]) else ([(0, [0]), (1, [1]), (2, [1, 4]), (3, [4]), (4, [1]), (5, [5, 1]), (6, [24, 1, 23, 5, 25]), (7, [24, 1, 23, 5, 25]), (8, [24, 1, 23, 5, 25, 7]), (9, []), (10, [7, 25, 5, 23, 1, 24]), (11, [25, 5, 23, 1, 24]), (12, [1, 5]), (13, [8, 1, 5]), (14, [42, 5, 1, 41, 8, 43]), (15, [42, 5, 1, 41, 8, 43]), (16, [42, 5, 1, 41, 8, 43, 10]), (17, []), (18, [10, 43, 8, 41, 1, 5, 42]), (19, [43, 8, 41, 1, 5, 42]), (20, [1, 5]), (21, [5, 11])])))))) else (bif Nat.blt f 45 then (bif Nat.blt f 37 then (bif Nat.blt f 33 then (bif Nat.blt f 31 then ([(0, [1, 2, 0]), (1, [12, 2, 0, 10, 11]), (2, [12, 2, 0, 10, 11]), (3, [7, 12, 2, 0, 10, 11]), (4, [7, 8, 12, 2, 0, 10, 11]), (5, [7, 8, 12, 2, 0, 10, 11]), (6, [7, 8, 12, 2, 0, 10, 11]), (7, [7, 9, 8, 12, 2, 0, 10, 11]), (8, [7, 9, 8, 12, 2, 0, 10, 11]), (9, [12, 2, 0, 10, 11])]) else (bif Nat.blt f 32 then ([(0, [0, 1]), (1, [0, 1])]) else ([(0, [0, 1]), (1, [1, 2])]))) else (bif Nat.blt f 35 then ([(0, [1, 0]), (1, [3, 0])]) else (bif Nat.blt f 36 then ([(0, [0]), (1, [1]), (2, []), (3, [1]), (4, [1, 3]), (5, [3]), (6, [1]), (7, [4]), (8, [4, 5]), (10, [4, 5]), (11, [4, 5]), (12, [4, 5, 6]), (13, [6]), (9, [5, 4]), (14, [4]), (15, []), (16, [])]) else ([(0, [0, 2, 3, 1]), (1, [2, 4, 3, 1, 8]), (2, [2, 4, 3, 1, 9, 8]), (3, [2, 4, 3, 1, 9, 8]), (4, [4, 3, 1, 9, 8]), (5, [3, 1, 9, 8]), (6, [1, 9, 8]), (7, [9, 8])])))) else (bif Nat.blt f 41 then (bif Nat.blt f 39 then (bif Nat.blt f 38 then ([(0, [0]), (1, [1]), (2, [1, 3]), (3, [3, 4, 1]), (5, [3, 4, 1]), (4, [4, 1, 3]), (6, [1, 3]), (7, [5, 3]), (8, [3, 6, 5]), (10, [3, 6, 5]), (11, [3, 6, 5]), (9, [6, 5, 3]), (12, [3])]) else ([(0, [0, 1]), (1, [2, 1]), (2, [1, 2, 5]), (4, [1, 2, 5]), (5, [1, 2, 5, 6]), (6, [9, 8, 1, 2, 5, 7, 6]), (7, [8, 1, 2, 5, 7, 6]), (8, [8, 9, 1, 2, 5, 7, 6]), (9, [1, 2, 5, 7, 6]), (10, [9, 1, 2, 5, 7, 6]), (11, [1, 2, 5, 7, 6]), (12, [9, 1, 2, 5, 7, 6]), (13, [1, 2, 5, 7, 6]), (14, [9, 1, 2, 5, 7, 6]), (15, [1, 2, 5, 7, 6]), (16, [1, 2, 5, 7, 6, 9]), (17, [9]), (18, [6, 7, 5, 2, 1]), (19, [6, 7, 5, 2, 1]), (3, [5, 2, 1]), (20, [])])) else (bif Nat.blt f 40 then ([(0, [1, 2, 0]), (1, [1, 2, 0]), (2, [1, 7, 2, 0]), (4, [1, 7, 2, 0]), (5, [1, 8, 7, 2, 0]), (6, [9, 1, 8, 7, 2, 0]), (7, [9, 1, 8, 7, 2, 0]), (8, [1, 8, 9, 7, 2, 0]), (9, [1, 8, 9, 7, 2, 0]), (10, [10, 1, 8, 9, 7, 2, 0]), (11, [10, 8, 9, 7, 2, 0]), (12, [10, 8, 9, 7, 2, 0]), (13, [1, 8, 9, 7, 2, 0]), (14, [8, 1, 9, 7, 2, 0]), (3, [7, 1, 2, 0]), (15, [1])]) else ([(0, [2, 1, 0]), (1, [2, 1, 0]), (2, [0, 7, 2, 1]), (4, [0, 7, 2, 1]), (5, [0, 7, 2, 1]), (6, [0, 7, 2, 1]), (7, [0, 7, 2, 1]), (8, [0, 7, 2, 1]), (9, [0, 7, 2, 1]), (10, [0, 7, 2, 1]), (3, [7, 2, 1, 0]), (11, [0])]))) else (bif Nat.blt f 43 then (bif Nat.blt f 42 then ([(0, [1, 0]), (1, [1, 0]), (2, [0, 1, 5]), (4, [0, 1, 5]), (5, []), (3, [5, 1, 0]), (6, [])]) else ([(0, [0, 1]), (1, [1, 2])])) else (bif Nat.blt f 44 then ([(0, [0, 1, 2]), (1, [1, 2, 3]), (2, [3, 7]), (3, [7])]) else ([(0, [0, 2]), (1, [3, 2]), (2, [3, 2])]))))) else (bif Nat.blt f 53 then (bif Nat.blt f 49 then (bif Nat.blt f 47 then (bif Nat.blt f 46 then ([(0, [0])]) else ([(0, [0]), (1, [1]), (2, []), (3, [1]), (4, [1, 3]), (5, [3]), (6, [1, 3]), (7, [4, 3]), (8, []), (9, [3])])) else (bif Nat.blt f 48 then ([(0, [0, 1, 2]), (1, [0, 1, 2])]) else ([(0, [0, 1]), (1, [0, 1]), (2, [11, 1, 10, 0, 12]), (3, [11, 1, 10, 0, 12]), (4, [6, 11, 1, 10, 0, 12]), (5, [11, 1, 10, 0, 12, 7]), (6, [7]), (7, [12, 0, 10, 1, 11]), (8, [1, 0]), (9, [25, 0, 23, 24]), (10, [25, 0, 23, 24]), (11, [9, 25, 0, 23, 24]), (12, [9, 25, 0, 23, 24]), (13, [25, 0, 23, 24]), (14, [])]))) else (bif Nat.blt f 51 then (bif Nat.blt f 50 then ([(0, [0, 1]), (1, [0, 1]), (2, [7, 1, 0, 8]), (3, [7, 1, 0, 8]), (4, [7, 1, 0, 8, 5]), (5, [5]), (6, [8, 0, 1, 7]), (7, [])]) else ([(0, [0]), (1, [0])])) else (bif Nat.blt f 52 then ([(0, [0, 1]), (1, [0, 1])]) else ([(0, [0]), (1, [0])])))) else (bif Nat.blt f 57 then (bif Nat.blt f 55 then (bif Nat.blt f 54 then ([(0, [0]), (1, [0]), (2, []), (3, [0]), (4, [3, 0]), (6, [3, 0]), (7, []), (8, [0, 3]), (9, []), (10, [3, 0]), (11, [0, 3, 4]), (13, [0, 3, 4]), (14, []), (12, [4, 3, 0]), (5, [3, 0]), (15, [])]) else ([(0, [0, 1]), (1, [2, 1]), (2, [6, 9, 10, 5, 8, 2, 1, 7]), (3, []), (4, [7, 1, 2, 8, 5]), (5, []), (6, [5, 8, 2, 1, 7]), (7, []), (8, [7, 1, 2, 8]), (9, [1, 2, 8]), (10, [1, 2, 8, 11]), (11, [11]), (12, [8, 2, 1]), (13, [2, 1]), (14, [1, 12]), (15, [12]), (16, [1]), (17, []), (18, [])])) else (bif Nat.blt f 56 then ([(0, [0, 1]), (1, [3, 2]), (2, []), (3, [2, 3]), (4, [2, 3, 7, 8]), (5, [7, 8]), (6, [3, 2, 7]), (7, [7, 9, 8])]) else ([(0, [0, 2, 1]), (1, [2, 3, 1]), (2, [7, 2, 3, 1, 8]), (3, [8]), (4, [1, 3, 2, 7]), (5, [7, 2, 3, 1, 9]), (7, [7, 2, 3, 1, 9]), (8, []), (6, [9, 1, 3, 2, 7]), (9, [2, 7]), (10, []), (11, [])]))) else (bif Nat.blt f 59 then (bif Nat.blt f 58 then ([(0, [0, 1, 2]), (1, [0, 1, 2]), (2, [7, 1, 2]), (4, [7, 2, 1]), (6, [2, 7, 1]), (8, [7, 1, 2]), (10, [7, 1]), (11, [1]), (9, [1, 2]), (7, [1]), (5, [1]), (3, [1, 2]), (12, [])]) else ([(0, [0]), (1, [1])])) else (bif Nat.blt f 60 then ([(0, [1, 2, 0]), (1, [4, 2, 0]), (2, [0]), (3, [0, 2, 4]), (4, [4, 0]), (5, [0, 7, 4]), (7, [0, 7, 4]), (6, [7, 4, 0]), (8, [0])]) else ([(0, [1, 0, 2]), (1, [9, 8, 2, 0, 10]), (2, [9, 8, 2, 0, 10]), (3, [9, 8, 2, 0, 10, 7]), (4, [7, 10, 0, 2, 8, 9]), (5, [7, 10, 0, 2, 8, 9]), (6, [7, 10, 0, 2, 8, 9]), (7, [7, 10, 0, 2, 8, 9]), (8, [7, 10, 0, 2, 8, 9]), (9, [7, 10, 0, 2, 8, 9]), (10, [10, 0, 2, 8, 9])]))))))) else (bif Nat.blt f 91 then (bif Nat.blt f 76 then (bif Nat.blt f 68 then (bif Nat.blt f 64 then (bif Nat.blt f 62 then ([(0, [0]), (1, [0])]) else (bif Nat.blt f 63 then ([(0, [0]), (1, [0]), (2, []), (3, [0]), (4, [9, 8, 0, 10]), (5, [9, 8, 0, 10]), (6, [3, 4, 9, 8, 0, 10]), (8, [10, 0, 8, 9, 4, 3]), (10, [3, 4, 9, 8, 0, 10]), (11, []), (9, []), (7, []), (12, [10, 0, 8, 9]), (13, [])]) else ([(0, [0, 1, 2]), (1, [3, 1, 2]), (2, [3, 1, 2])]))) else (bif Nat.blt f 66 then (bif Nat.blt f 65 then ([(0, [0, 1]), (1, [1, 2]), (2, [6, 1, 2, 5]), (3, []), (4, [5, 2, 1]), (5, []), (6, [1, 2, 5]), (7, [1, 2, 5]), (8, [1, 2, 5, 7]), (9, [7]), (10, [5, 2, 1]), (11, [2, 1]), (12, [1, 8]), (13, [8]), (14, [1]), (15, []), (16, [])]) else ([(0, [1, 0]), (1, [3, 0]), (2, [5, 3, 0, 6, 7]), (3, [7]), (4, [6, 0, 3, 5]), (5, [23, 6, 0, 3, 5]), (7, [6, 23, 5, 3, 0]), (15, [3, 0, 23, 5, 6]), (18, [6, 23, 0, 3, 5]), (21, [3, 0, 23, 6, 5]), (24, [6, 23, 5, 0, 3]), (31, [23, 5, 6, 3, 0]), (32, [5, 6, 3, 0]), (33, []), (34, [0, 3]), (35, [0, 3]), (36, [0, 3]), (37, [0, 3, 11]), (38, [11]), (25, [5, 0, 3]), (26, []), (27, [3, 0]), (28, [3, 0, 10]), (29, [10]), (30, [0, 3]), (22, [5]), (23, []), (19, [5]), (20, []), (16, [5, 6]), (17, []), (8, [5, 3, 0]), (9, [9, 8, 5, 3, 0]), (11, [0, 3, 5, 8]), (13, [8, 5]), (14, []), (12, []), (10, []), (6, [0, 3, 5]), (39, [])])) else (bif Nat.blt f 67 then ([(0, [0, 1]), (1, [0, 1]), (2, [7, 1, 0, 8]), (3, [7, 1, 0, 8]), (4, [7, 1, 0, 8, 5]), (5, [5]), (6, [8, 0, 1, 7]), (7, [])]) else ([(0, [0]), (1, [0])])))) else (bif Nat.blt f 72 then (bif Nat.blt f 70 then (bif Nat.blt f 69 then ([(0, [1, 0]), (1, [1, 0]), (2, [1, 0]), (3, [1])]) else ([(0, [0]), (1, [0])])) else (bif Nat.blt f 71 then ([(0, [0]), (1, [0]), (2, [8]), (3, [8]), (5, [8]), (7, [8]), (8, [8]), (10, [8]), (12, [8]), (13, []), (11, []), (9, []), (6, []), (4, []), (14, [])]) else ([(0, [0]), (1, [1])]))) else (bif Nat.blt f 74 then (bif Nat.blt f 73 then ([(0, [0, 1]), (1, [1, 2]), (2, [1, 2, 6]), (3, [6]), (4, [2, 1])]) else ([(0, [0, 1]), (1, [0, 1]), (2, [1, 6, 0]), (4, [1, 6, 0]), (5, [6, 0]), (6, []), (7, [0, 6]), (3, [6, 0, 1]), (8, [])])) else (bif Nat.blt f 75 then ([(0, [1, 0]), (1, [3, 0]), (2, [0, 3]), (3, [0, 3])]) else ([(0, [0]), (1, [0])]))))) else (bif Nat.blt f 83 then (bif Nat.blt f 79 then (bif Nat.blt f 77 then ([(0, [0]), (1, [0]), (2, [6, 0]), (3, [7, 6, 0]), (4, [4, 6, 0, 3]), (5, [3]), (6, [0])]) else (bif Nat.blt f 78 then ([(0, [0]), (1, [0]), (2, [3]), (3, [3]), (4, [3]), (5, [3]), (6, [3]), (7, [3]), (8, [3]), (9, [3]), (10, [3]), (11, [3]), (12, [3]), (13, [3]), (14, [3]), (15, [3]), (16, [3]), (17, [3]), (18, [3]), (19, [3]), (20, [3]), (21, [3]), (22, [3]), (23, [3]), (24, [3]), (25, [3]), (26, [3]), (27, []), (28, [])]) else ([(0, [0, 1]), (1, [0, 1])]))) else (bif Nat.blt f 81 then (bif Nat.blt f 80 then ([(0, [0, 1]), (1, [2, 1])]) else ([(0, [0]), (1, [0, 2]), (2, [4, 2]), (3, [4, 2]), (5, [4, 2]), (7, [4, 2]), (8, [4, 2]), (10, [4, 2]), (12, [4, 2]), (14, [4, 2]), (15, [2]), (13, [2]), (11, [2]), (9, [2]), (6, [2]), (4, [2]), (16, [2])])) else (bif Nat.blt f 82 then ([(0, [0, 1]), (1, [3, 2]), (2, []), (3, [2]), (4, [68, 2]), (6, [68, 2]), (7, [2]), (5, [2]), (8, [])]) else ([(0, [0]), (1, [1])])))) else (bif Nat.blt f 87 then (bif Nat.blt f 85 then (bif Nat.blt f 84 then ([(0, [1, 0]), (1, [0, 3, 5]), (2, []), (3, [5, 3, 0]), (4, [6, 5, 3, 0, 4]), (5, [3, 0, 4]), (6, [4, 5, 6])]) else ([(0, [0]), (1, [0])])) else (bif Nat.blt f 86 then ([(0, [1, 0]), (1, [1, 0]), (2, [0, 1, 5]), (4, [0, 1, 5]), (5, []), (3, [5, 1, 0]), (6, [])]) else ([(0, []), (1, [])]))) else (bif Nat.blt f 89 then (bif Nat.blt f 88 then ([(0, [0, 1]), (1, [2, 1]), (2, [2, 1, 5]), (3, [5]), (4, [1, 2]), (5, [2, 1, 6]), (7, [2, 1, 6]), (8, [2, 1, 6, 7]), (9, [7]), (6, [6, 1, 2]), (10, [])]) else ([(0, [0, 1]), (1, [2, 1]), (2, [6, 2, 1]), (3, [2, 1]), (4, [2, 1, 6]), (5, [7, 2, 1, 6, 8]), (6, [8]), (7, [6, 1, 2, 7]), (8, [2, 7]), (9, [7, 9, 10]), (10, []), (11, [10]), (12, [1, 7, 2]), (13, [11, 7, 2, 8]), (14, [8]), (15, [2, 7, 11]), (16, [12]), (17, []), (18, [12])])) else (bif Nat.blt f 90 then ([(0, [0]), (1, [1])]) else ([(0, [1, 0]), (1, [0, 3]), (2, [3, 0]), (3, [3, 0]), (4, [21, 0, 19, 20]), (5, [21, 0, 19, 20]), (6, [5, 21, 0, 19, 20]), (7, [21, 0, 19, 20])])))))) else (bif Nat.blt f 106 then (bif Nat.blt f 98 then (bif Nat.blt f 94 then (bif Nat.blt f 92 then ([(0, [0, 1]), (1, [0, 1]), (2, [7, 1, 0, 8]), (3, [7, 1, 0, 8]), (4, [7, 1, 0, 8, 5]), (5, [5]), (6, [8, 0, 1, 7]), (7, [])]) else (bif Nat.blt f 93 then ([(0, [0, 1]), (1, [1, 2]), (2, [1, 2, 5]), (3, [5]), (4, [2, 1]), (5, [17, 16, 1, 18]), (6, [17, 16, 1, 18]), (7, [7, 17, 16, 1, 18]), (8, [17, 16, 1, 18, 8]), (9, [8]), (10, [18, 1, 16, 17]), (11, [])]) else ([(0, [0, 1]), (1, [1, 2]), (2, [1, 2]), (3, [7, 6]), (5, [6]), (6, []), (4, []), (7, [6]), (8, [1, 2]), (9, [8, 1, 2]), (10, [40, 2, 39, 1, 41, 8]), (11, [40, 2, 39, 1, 41, 8]), (12, [10, 40, 2, 39, 1, 41, 8]), (13, [40, 2, 39, 1, 41, 11, 8, 12]), (14, [12]), (15, [8, 11, 41, 1, 39, 2, 40]), (16, [41, 8, 1, 39, 2, 40]), (17, [2, 8]), (18, [2, 8]), (19, []), (20, []), (21, [2, 8]), (22, [8, 13, 14]), (23, [90, 14, 89, 13, 91]), (24, [90, 14, 89, 13, 91]), (25, [16, 90, 14, 89, 13, 91]), (26, []), (27, [91, 13, 89, 14, 90]), (28, [14])]))) else (bif Nat.blt f 96 then (bif Nat.blt f 95 then ([(0, [0]), (1, [0])]) else ([(0, [0, 1]), (1, [2, 1]), (2, []), (3, [1, 2]), (4, []), (5, [2, 1]), (6, []), (7, [1]), (8, []), (9, [])])) else (bif Nat.blt f 97 then ([(0, [0]), (1, [0]), (2, [0, 3]), (3, [0, 3]), (4, [0, 3]), (5, [0, 3]), (6, [0, 3]), (7, [0, 3]), (9, [3, 0]), (10, [3, 0]), (11, [3, 0]), (12, [3, 0]), (13, [3, 0]), (14, [3, 0]), (15, [3, 0]), (16, []), (8, []), (17, [0]), (18, []), (19, [])]) else ([(0, [0, 1]), (1, [1, 2]), (2, [1, 2]), (3, [2]), (4, []), (5, [])])))) else (bif Nat.blt f 102 then (bif Nat.blt f 100 then (bif Nat.blt f 99 then ([(0, [0]), (1, [0]), (2, [4]), (4, [4]), (6, [4]), (8, [4]), (9, [4]), (11, [4]), (12, []), (10, []), (7, []), (5, []), (3, []), (13, [])]) else ([(0, [2, 1, 0]), (1, [2, 1, 0]), (2, []), (3, [0, 1]), (4, []), (5, [1, 0]), (6, []), (7, [0, 1]), (8, []), (9, [])])) else (bif Nat.blt f 101 then ([(0, [0, 1]), (1, [2, 1]), (2, [2, 5, 1]), (4, [1, 5, 2]), (6, [2, 5, 1]), (8, [1]), (9, []), (7, []), (5, []), (3, []), (10, [])]) else ([(0, [1, 0]), (1, [1, 0])]))) else (bif Nat.blt f 104 then (bif Nat.blt f 103 then ([(0, [0]), (1, [0]), (2, [4]), (3, [4]), (4, [4]), (5, [4]), (6, [4]), (7, [4]), (8, [4]), (9, [4]), (10, [4]), (11, [4]), (13, [4]), (14, [4]), (15, [4]), (17, [4]), (18, [4]), (19, [4]), (21, [4]), (23, [4]), (24, [4]), (25, []), (22, []), (20, []), (16, []), (12, []), (26, [])]) else ([(0, [0]), (1, [0]), (2, []), (3, [0]), (4, [0, 3]), (6, [0, 3]), (7, []), (5, [3, 0]), (8, [])])) else (bif Nat.blt f 105 then ([(0, [0]), (1, [0]), (3, [0]), (5, [0]), (6, []), (4, []), (2, []), (7, [])]) else ([(0, [0]), (1, [0]), (2, [0, 3]), (4, [0, 3]), (5, []), (3, [3, 0]), (6, [0])]))))) else ([])))

def okL : List Nat := [3, 4, 5, 6, 7, 8, 9, 10, 11, 12, 13, 14, 15, 16, 17, 18, 19, 20, 21, 22, 23, 24, 25, 26, 27, 28, 29, 30, 31, 32, 33, 34, 35, 36, 37, 38, 39, 40, 41, 42, 43, 44, 45, 46, 47, 48, 49, 50, 51, 52, 53, 54, 55, 56, 57, 58, 59, 60, 61, 62, 63, 64, 65, 66, 67, 68, 69, 70, 71, 72, 73, 74, 75, 76, 77, 78, 79, 80, 81, 82, 83, 84, 85, 86, 87, 88, 89, 90, 91, 92, 93, 94, 95, 96, 97, 98, 99, 100, 101, 102, 103, 104, 105]


def findL : Nat → List (Nat × List Nat) → Option (List Nat)
  | _, [] => none
  | r, (s, l) :: rest => bif Nat.beq r s then some l else findL r rest
noncomputable def C : ACtx := { P := Tryz.prog, esc := escT, own := fun f => [59, 40].contains f, live := fun f r => findL r (liveL f), ext := fun f => bif Nat.beq f 5 then some (closedFn true) else none }
noncomputable def C0 : ACtx := { P := Tryz.prog, esc := escT, own := fun f => [59, 40].contains f, live := fun f r => findL r (liveL f), ext := fun _ => none }
@[go_sem] theorem C_P : C.P = Tryz.prog := by rfl
@[go_sem] theorem own_3 : C.own 3 = false := by rfl
@[go_sem] theorem own_4 : C.own 4 = false := by rfl
@[go_sem] theorem own_5 : C.own 5 = false := by rfl
@[go_sem] theorem own_6 : C.own 6 = false := by rfl
@[go_sem] theorem own_7 : C.own 7 = false := by rfl
@[go_sem] theorem own_8 : C.own 8 = false := by rfl
@[go_sem] theorem own_9 : C.own 9 = false := by rfl
@[go_sem] theorem own_10 : C.own 10 = false := by rfl
@[go_sem] theorem own_11 : C.own 11 = false := by rfl
@[go_sem] theorem own_12 : C.own 12 = false := by rfl
@[go_sem] theorem own_13 : C.own 13 = false := by rfl
@[go_sem] theorem own_14 : C.own 14 = false := by rfl
@[go_sem] theorem own_15 : C.own 15 = false := by rfl
@[go_sem] theorem own_16 : C.own 16 = false := by rfl
@[go_sem] theorem own_17 : C.own 17 = false := by rfl
@[go_sem] theorem own_18 : C.own 18 = false := by rfl
@[go_sem] theorem own_19 : C.own 19 = false := by rfl
@[go_sem] theorem own_20 : C.own 20 = false := by rfl
@[go_sem] theorem own_21 : C.own 21 = false := by rfl
@[go_sem] theorem own_22 : C.own 22 = false := by rfl
@[go_sem] theorem own_23 : C.own 23 = false := by rfl
@[go_sem] theorem own_24 : C.own 24 = false := by rfl
@[go_sem] theorem own_25 : C.own 25 = false := by rfl
@[go_sem] theorem own_26 : C.own 26 = false := by rfl
@[go_sem] theorem own_27 : C.own 27 = false := by rfl
@[go_sem] theorem own_28 : C.own 28 = false := by rfl
@[go_sem] theorem own_29 : C.own 29 = false := by rfl
@[go_sem] theorem own_30 : C.own 30 = false := by rfl
@[go_sem] theorem own_31 : C.own 31 = false := by rfl
@[go_sem] theorem own_32 : C.own 32 = false := by rfl
@[go_sem] theorem own_33 : C.own 33 = false := by rfl
@[go_sem] theorem own_34 : C.own 34 = false := by rfl
@[go_sem] theorem own_35 : C.own 35 = false := by rfl
@[go_sem] theorem own_36 : C.own 36 = false := by rfl
@[go_sem] theorem own_37 : C.own 37 = false := by rfl
@[go_sem] theorem own_38 : C.own 38 = false := by rfl
@[go_sem] theorem own_39 : C.own 39 = false := by rfl
@[go_sem] theorem own_40 : C.own 40 = true := by rfl
@[go_sem] theorem own_41 : C.own 41 = false := by rfl
@[go_sem] theorem own_42 : C.own 42 = false := by rfl
@[go_sem] theorem own_43 : C.own 43 = false := by rfl
@[go_sem] theorem own_44 : C.own 44 = false := by rfl
@[go_sem] theorem own_45 : C.own 45 = false := by rfl
@[go_sem] theorem own_46 : C.own 46 = false := by rfl
@[go_sem] theorem own_47 : C.own 47 = false := by rfl
@[go_sem] theorem own_48 : C.own 48 = false := by rfl
@[go_sem] theorem own_49 : C.own 49 = false := by rfl
@[go_sem] theorem own_50 : C.own 50 = false := by rfl
@[go_sem] theorem own_51 : C.own 51 = false := by rfl
@[go_sem] theorem own_52 : C.own 52 = false := by rfl
@[go_sem] theorem own_53 : C.own 53 = false := by rfl
@[go_sem] theorem own_54 : C.own 54 = false := by rfl
@[go_sem] theorem own_55 : C.own 55 = false := by rfl
@[go_sem] theorem own_56 : C.own 56 = false := by rfl
@[go_sem] theorem own_57 : C.own 57 = false := by rfl
@[go_sem] theorem own_58 : C.own 58 = false := by rfl
@[go_sem] theorem own_59 : C.own 59 = true := by rfl
@[go_sem] theorem own_60 : C.own 60 = false := by rfl
@[go_sem] theorem own_61 : C.own 61 = false := by rfl
@[go_sem] theorem own_62 : C.own 62 = false := by rfl
@[go_sem] theorem own_63 : C.own 63 = false := by rfl
@[go_sem] theorem own_64 : C.own 64 = false := by rfl
@[go_sem] theorem own_65 : C.own 65 = false := by rfl
@[go_sem] theorem own_66 : C.own 66 = false := by rfl
@[go_sem] theorem own_67 : C.own 67 = false := by rfl
@[go_sem] theorem own_68 : C.own 68 = false := by rfl
@[go_sem] theorem own_69 : C.own 69 = false := by rfl
@[go_sem] theorem own_70 : C.own 70 = false := by rfl
@[go_sem] theorem own_71 : C.own 71 = false := by rfl
@[go_sem] theorem own_72 : C.own 72 = false := by rfl
@[go_sem] theorem own_73 : C.own 73 = false := by rfl
@[go_sem] theorem own_74 : C.own 74 = false := by rfl
@[go_sem] theorem own_75 : C.own 75 = false := by rfl
@[go_sem] theorem own_76 : C.own 76 = false := by rfl
@[go_sem] theorem own_77 : C.own 77 = false := by rfl
@[go_sem] theorem own_78 : C.own 78 = false := by rfl
@[go_sem] theorem own_79 : C.own 79 = false := by rfl
@[go_sem] theorem own_80 : C.own 80 = false := by rfl
@[go_sem] theorem own_81 : C.own 81 = false := by rfl
@[go_sem] theorem own_82 : C.own 82 = false := by rfl
@[go_sem] theorem own_83 : C.own 83 = false := by rfl
@[go_sem] theorem own_84 : C.own 84 = false := by rfl
@[go_sem] theorem own_85 : C.own 85 = false := by rfl
@[go_sem] theorem own_86 : C.own 86 = false := by rfl
@[go_sem] theorem own_87 : C.own 87 = false := by rfl
@[go_sem] theorem own_88 : C.own 88 = false := by rfl
@[go_sem] theorem own_89 : C.own 89 = false := by rfl
@[go_sem] theorem own_90 : C.own 90 = false := by rfl
@[go_sem] theorem own_91 : C.own 91 = false := by rfl
@[go_sem] theorem own_92 : C.own 92 = false := by rfl
@[go_sem] theorem own_93 : C.own 93 = false := by rfl
@[go_sem] theorem own_94 : C.own 94 = false := by rfl
@[go_sem] theorem own_95 : C.own 95 = false := by rfl
@[go_sem] theorem own_96 : C.own 96 = false := by rfl
@[go_sem] theorem own_97 : C.own 97 = false := by rfl
@[go_sem] theorem own_98 : C.own 98 = false := by rfl
@[go_sem] theorem own_99 : C.own 99 = false := by rfl
@[go_sem] theorem own_100 : C.own 100 = false := by rfl
@[go_sem] theorem own_101 : C.own 101 = false := by rfl
@[go_sem] theorem own_102 : C.own 102 = false := by rfl
@[go_sem] theorem own_103 : C.own 103 = false := by rfl
@[go_sem] theorem own_104 : C.own 104 = false := by rfl
@[go_sem] theorem own_105 : C.own 105 = false := by rfl
theorem allOk : okL.all (fnOk Tryz.prog) = true := by kernel_rfl
theorem okOf : ∀ f, okL.contains f = true → fnOk Tryz.prog f = true := fun f h => List.all_eq_true.1 allOk f (by simpa using h)
theorem ok (f : FuncId) (h : okL.contains f = true) : fnOk C.P f = true := okOf f h
@[go_sem] theorem esc_3 : C.esc 3 = [] := by kernel_rfl
@[go_sem] theorem live_3_0 : C.live 3 0 = some [0] := by kernel_rfl
@[go_sem] theorem live_3_1 : C.live 3 1 = some [1] := by kernel_rfl
@[go_sem] theorem live_3_2 : C.live 3 2 = some [] := by kernel_rfl
@[go_sem] theorem live_3_3 : C.live 3 3 = some [1] := by kernel_rfl
@[go_sem] theorem esc_4 : C.esc 4 = [] := by kernel_rfl
@[go_sem] theorem live_4_0 : C.live 4 0 = some [0, 1] := by kernel_rfl
@[go_sem] theorem live_4_1 : C.live 4 1 = some [1, 2] := by kernel_rfl
@[go_sem] theorem live_4_2 : C.live 4 2 = some [] := by kernel_rfl
@[go_sem] theorem live_4_3 : C.live 4 3 = some [2, 1] := by kernel_rfl
@[go_sem] theorem live_4_4 : C.live 4 4 = some [1, 2, 5] := by kernel_rfl
@[go_sem] theorem live_4_6 : C.live 4 6 = some [1, 2, 5] := by kernel_rfl
@[go_sem] theorem live_4_7 : C.live 4 7 = some [] := by kernel_rfl
@[go_sem] theorem live_4_5 : C.live 4 5 = some [5, 2, 1] := by kernel_rfl
@[go_sem] theorem live_4_8 : C.live 4 8 = some [2, 1] := by kernel_rfl
@[go_sem] theorem esc_5 : C.esc 5 = [] := by kernel_rfl
@[go_sem] theorem live_5_0 : C.live 5 0 = some [] := by kernel_rfl
@[go_sem] theorem live_5_1 : C.live 5 1 = some [] := by kernel_rfl
@[go_sem] theorem live_5_2 : C.live 5 2 = some [1] := by kernel_rfl
@[go_sem] theorem live_5_3 : C.live 5 3 = some [2, 1] := by kernel_rfl
@[go_sem] theorem live_5_4 : C.live 5 4 = some [1, 3] := by kernel_rfl
@[go_sem] theorem live_5_5 : C.live 5 5 = some [3, 4] := by kernel_rfl
@[go_sem] theorem live_5_6 : C.live 5 6 = some [3, 4, 5] := by kernel_rfl
@[go_sem] theorem esc_6 : C.esc 6 = [] := by kernel_rfl
@[go_sem] theorem live_6_0 : C.live 6 0 = some [0] := by kernel_rfl
@[go_sem] theorem live_6_1 : C.live 6 1 = some [1] := by kernel_rfl
@[go_sem] theorem esc_7 : C.esc 7 = [] := by kernel_rfl
@[go_sem] theorem live_7_0 : C.live 7 0 = some [0] := by kernel_rfl
@[go_sem] theorem live_7_1 : C.live 7 1 = some [1] := by kernel_rfl
@[go_sem] theorem live_7_2 : C.live 7 2 = some [] := by kernel_rfl
@[go_sem] theorem live_7_3 : C.live 7 3 = some [1] := by kernel_rfl
@[go_sem] theorem live_7_4 : C.live 7 4 = some [1, 3] := by kernel_rfl
@[go_sem] theorem live_7_5 : C.live 7 5 = some [3, 4] := by kernel_rfl
@[go_sem] theorem live_7_6 : C.live 7 6 = some [5, 3, 4] := by kernel_rfl
@[go_sem] theorem live_7_8 : C.live 7 8 = some [5, 3, 4] := by kernel_rfl
@[go_sem] theorem live_7_9 : C.live 7 9 = some [5, 3, 4, 6] := by kernel_rfl
@[go_sem] theorem live_7_10 : C.live 7 10 = some [] := by kernel_rfl
@[go_sem] theorem live_7_11 : C.live 7 11 = some [6, 4, 3, 5] := by kernel_rfl
@[go_sem] theorem live_7_12 : C.live 7 12 = some [] := by kernel_rfl
@[go_sem] theorem live_7_7 : C.live 7 7 = some [5, 3, 4] := by kernel_rfl
@[go_sem] theorem live_7_13 : C.live 7 13 = some [] := by kernel_rfl
@[go_sem] theorem esc_8 : C.esc 8 = [] := by kernel_rfl
@[go_sem] theorem live_8_0 : C.live 8 0 = some [0] := by kernel_rfl
@[go_sem] theorem live_8_1 : C.live 8 1 = some [1] := by kernel_rfl
@[go_sem] theorem esc_9 : C.esc 9 = [] := by kernel_rfl
@[go_sem] theorem live_9_0 : C.live 9 0 = some [0] := by kernel_rfl
@[go_sem] theorem live_9_1 : C.live 9 1 = some [1] := by kernel_rfl
@[go_sem] theorem live_9_2 : C.live 9 2 = some [] := by kernel_rfl
@[go_sem] theorem live_9_3 : C.live 9 3 = some [1] := by kernel_rfl
@[go_sem] theorem live_9_4 : C.live 9 4 = some [1, 3] := by kernel_rfl
@[go_sem] theorem live_9_5 : C.live 9 5 = some [3, 4] := by kernel_rfl
@[go_sem] theorem live_9_6 : C.live 9 6 = some [4, 3, 5] := by kernel_rfl
@[go_sem] theorem live_9_8 : C.live 9 8 = some [4, 3, 5] := by kernel_rfl
@[go_sem] theorem live_9_9 : C.live 9 9 = some [6, 4, 3, 5] := by kernel_rfl
@[go_sem] theorem live_9_10 : C.live 9 10 = some [] := by kernel_rfl
@[go_sem] theorem live_9_7 : C.live 9 7 = some [5, 3, 4] := by kernel_rfl
@[go_sem] theorem live_9_11 : C.live 9 11 = some [] := by kernel_rfl
@[go_sem] theorem esc_10 : C.esc 10 = [] := by kernel_rfl
@[go_sem] theorem live_10_0 : C.live 10 0 = some [0] := by kernel_rfl
@[go_sem] theorem live_10_1 : C.live 10 1 = some [1] := by kernel_rfl
@[go_sem] theorem esc_11 : C.esc 11 = [] := by kernel_rfl
@[go_sem] theorem live_11_0 : C.live 11 0 = some [0] := by kernel_rfl
@[go_sem] theorem live_11_1 : C.live 11 1 = some [1] := by kernel_rfl
@[go_sem] theorem esc_12 : C.esc 12 = [] := by kernel_rfl
@[go_sem] theorem live_12_0 : C.live 12 0 = some [1, 0] := by kernel_rfl
@[go_sem] theorem live_12_1 : C.live 12 1 = some [1, 0] := by kernel_rfl
@[go_sem] theorem live_12_2 : C.live 12 2 = some [1, 0, 5] := by kernel_rfl
@[go_sem] theorem live_12_3 : C.live 12 3 = some [5, 6, 1, 0] := by kernel_rfl
@[go_sem] theorem live_12_5 : C.live 12 5 = some [5, 6, 1, 0] := by kernel_rfl
@[go_sem] theorem live_12_6 : C.live 12 6 = some [5, 6, 1, 0] := by kernel_rfl
@[go_sem] theorem live_12_7 : C.live 12 7 = some [5, 6, 1, 0] := by kernel_rfl
@[go_sem] theorem live_12_8 : C.live 12 8 = some [5, 6, 1, 0] := by kernel_rfl
@[go_sem] theorem live_12_9 : C.live 12 9 = some [5, 6, 1, 0] := by kernel_rfl
@[go_sem] theorem live_12_4 : C.live 12 4 = some [6, 1, 0, 5] := by kernel_rfl
@[go_sem] theorem live_12_10 : C.live 12 10 = some [5] := by kernel_rfl
@[go_sem] theorem esc_13 : C.esc 13 = [] := by kernel_rfl
@[go_sem] theorem live_13_0 : C.live 13 0 = some [0] := by kernel_rfl
@[go_sem] theorem live_13_1 : C.live 13 1 = some [0, 2] := by kernel_rfl
@[go_sem] theorem esc_14 : C.esc 14 = [] := by kernel_rfl
@[go_sem] theorem live_14_0 : C.live 14 0 = some [1, 0] := by kernel_rfl
@[go_sem] theorem live_14_1 : C.live 14 1 = some [0, 3, 4] := by kernel_rfl
@[go_sem] theorem esc_15 : C.esc 15 = [] := by kernel_rfl
@[go_sem] theorem live_15_0 : C.live 15 0 = some [0] := by kernel_rfl
@[go_sem] theorem live_15_1 : C.live 15 1 = some [0, 2] := by kernel_rfl
@[go_sem] theorem esc_16 : C.esc 16 = [] := by kernel_rfl
@[go_sem] theorem live_16_0 : C.live 16 0 = some [0, 1] := by kernel_rfl
@[go_sem] theorem live_16_1 : C.live 16 1 = some [0, 1] := by kernel_rfl
@[go_sem] theorem live_16_2 : C.live 16 2 = some [] := by kernel_rfl
@[go_sem] theorem live_16_3 : C.live 16 3 = some [1, 0] := by kernel_rfl
@[go_sem] theorem live_16_4 : C.live 16 4 = some [0, 1, 5] := by kernel_rfl
@[go_sem] theorem live_16_6 : C.live 16 6 = some [0, 1, 5] := by kernel_rfl
@[go_sem] theorem live_16_7 : C.live 16 7 = some [] := by kernel_rfl
@[go_sem] theorem live_16_5 : C.live 16 5 = some [5, 1, 0] := by kernel_rfl
@[go_sem] theorem live_16_8 : C.live 16 8 = some [] := by kernel_rfl
@[go_sem] theorem esc_17 : C.esc 17 = [] := by kernel_rfl
@[go_sem] theorem live_17_0 : C.live 17 0 = some [0] := by kernel_rfl
@[go_sem] theorem live_17_1 : C.live 17 1 = some [1] := by kernel_rfl
@[go_sem] theorem live_17_2 : C.live 17 2 = some [] := by kernel_rfl
@[go_sem] theorem live_17_3 : C.live 17 3 = some [1] := by kernel_rfl
@[go_sem] theorem live_17_4 : C.live 17 4 = some [1, 3] := by kernel_rfl
@[go_sem] theorem live_17_5 : C.live 17 5 = some [1, 4, 3] := by kernel_rfl
@[go_sem] theorem live_17_6 : C.live 17 6 = some [4, 15, 3, 13, 14] := by kernel_rfl
@[go_sem] theorem live_17_7 : C.live 17 7 = some [4, 15, 3, 13, 14] := by kernel_rfl
@[go_sem] theorem live_17_8 : C.live 17 8 = some [4, 6, 15, 3, 13, 14] := by kernel_rfl
@[go_sem] theorem live_17_9 : C.live 17 9 = some [4, 6, 15, 3, 13, 14] := by kernel_rfl
@[go_sem] theorem live_17_10 : C.live 17 10 = some [15, 4, 3, 13, 14] := by kernel_rfl
@[go_sem] theorem live_17_11 : C.live 17 11 = some [4] := by kernel_rfl
@[go_sem] theorem esc_18 : C.esc 18 = [] := by kernel_rfl
@[go_sem] theorem live_18_0 : C.live 18 0 = some [0] := by kernel_rfl
@[go_sem] theorem live_18_1 : C.live 18 1 = some [1] := by kernel_rfl
@[go_sem] theorem live_18_2 : C.live 18 2 = some [4] := by kernel_rfl
@[go_sem] theorem esc_19 : C.esc 19 = [10] := by kernel_rfl
@[go_sem] theorem live_19_0 : C.live 19 0 = some [0] := by kernel_rfl
@[go_sem] theorem live_19_1 : C.live 19 1 = some [1] := by kernel_rfl
@[go_sem] theorem live_19_2 : C.live 19 2 = some [3, 1] := by kernel_rfl
@[go_sem] theorem live_19_3 : C.live 19 3 = some [14, 3, 12, 1, 13] := by kernel_rfl
@[go_sem] theorem live_19_4 : C.live 19 4 = some [14, 3, 12, 1, 13] := by kernel_rfl
@[go_sem] theorem live_19_5 : C.live 19 5 = some [5, 14, 3, 12, 1, 13] := by kernel_rfl
@[go_sem] theorem live_19_6 : C.live 19 6 = some [14, 3, 12, 1, 13] := by kernel_rfl
@[go_sem] theorem live_19_7 : C.live 19 7 = some [1, 3] := by kernel_rfl
@[go_sem] theorem live_19_8 : C.live 19 8 = some [6, 1, 3] := by kernel_rfl
@[go_sem] theorem live_19_9 : C.live 19 9 = some [1, 3] := by kernel_rfl
@[go_sem] theorem live_19_10 : C.live 19 10 = some [1, 3, 6] := by kernel_rfl
@[go_sem] theorem live_19_11 : C.live 19 11 = some [3] := by kernel_rfl
@[go_sem] theorem esc_20 : C.esc 20 = [2] := by kernel_rfl
@[go_sem] theorem live_20_0 : C.live 20 0 = some [0, 1] := by kernel_rfl
@[go_sem] theorem live_20_1 : C.live 20 1 = some [1, 2] := by kernel_rfl
@[go_sem] theorem esc_21 : C.esc 21 = [] := by kernel_rfl
@[go_sem] theorem live_21_0 : C.live 21 0 = some [0] := by kernel_rfl
@[go_sem] theorem live_21_1 : C.live 21 1 = some [1] := by kernel_rfl
@[go_sem] theorem live_21_2 : C.live 21 2 = some [1, 3] := by kernel_rfl
@[go_sem] theorem live_21_3 : C.live 21 3 = some [3] := by kernel_rfl
@[go_sem] theorem live_21_4 : C.live 21 4 = some [1] := by kernel_rfl
@[go_sem] theorem live_21_5 : C.live 21 5 = some [1, 4] := by kernel_rfl
@[go_sem] theorem live_21_6 : C.live 21 6 = some [4, 1, 5] := by kernel_rfl
@[go_sem] theorem live_21_8 : C.live 21 8 = some [4, 1, 5] := by kernel_rfl
@[go_sem] theorem live_21_9 : C.live 21 9 = some [] := by kernel_rfl
@[go_sem] theorem live_21_10 : C.live 21 10 = some [5, 1, 4] := by kernel_rfl
@[go_sem] theorem live_21_7 : C.live 21 7 = some [5, 1, 4] := by kernel_rfl
@[go_sem] theorem live_21_11 : C.live 21 11 = some [4, 1] := by kernel_rfl
@[go_sem] theorem live_21_12 : C.live 21 12 = some [6, 4, 1] := by kernel_rfl
@[go_sem] theorem live_21_13 : C.live 21 13 = some [7, 6, 4, 1] := by kernel_rfl
@[go_sem] theorem live_21_15 : C.live 21 15 = some [7, 6, 4, 1] := by kernel_rfl
@[go_sem] theorem live_21_16 : C.live 21 16 = some [1, 4, 6, 7, 8] := by kernel_rfl
@[go_sem] theorem live_21_18 : C.live 21 18 = some [1, 4, 6, 7, 8] := by kernel_rfl
@[go_sem] theorem live_21_19 : C.live 21 19 = some [] := by kernel_rfl
@[go_sem] theorem live_21_17 : C.live 21 17 = some [8, 7, 6, 4, 1] := by kernel_rfl
@[go_sem] theorem live_21_14 : C.live 21 14 = some [7, 6, 4, 1] := by kernel_rfl
@[go_sem] theorem live_21_20 : C.live 21 20 = some [4, 1] := by kernel_rfl
@[go_sem] theorem esc_22 : C.esc 22 = [] := by kernel_rfl
@[go_sem] theorem live_22_0 : C.live 22 0 = some [0] := by kernel_rfl
@[go_sem] theorem live_22_1 : C.live 22 1 = some [1] := by kernel_rfl
@[go_sem] theorem live_22_2 : C.live 22 2 = some [3, 1] := by kernel_rfl
@[go_sem] theorem live_22_3 : C.live 22 3 = some [4, 3, 1] := by kernel_rfl
@[go_sem] theorem live_22_4 : C.live 22 4 = some [3, 1] := by kernel_rfl
@[go_sem] theorem live_22_5 : C.live 22 5 = some [3, 1, 4] := by kernel_rfl
@[go_sem] theorem live_22_6 : C.live 22 6 = some [3] := by kernel_rfl
@[go_sem] theorem esc_23 : C.esc 23 = [] := by kernel_rfl
@[go_sem] theorem live_23_0 : C.live 23 0 = some [0] := by kernel_rfl
@[go_sem] theorem live_23_1 : C.live 23 1 = some [1] := by kernel_rfl
@[go_sem] theorem esc_24 : C.esc 24 = [] := by kernel_rfl
@[go_sem] theorem live_24_0 : C.live 24 0 = some [0, 1] := by kernel_rfl
@[go_sem] theorem live_24_1 : C.live 24 1 = some [2, 1] := by kernel_rfl
@[go_sem] theorem live_24_2 : C.live 24 2 = some [] := by kernel_rfl
@[go_sem] theorem live_24_3 : C.live 24 3 = some [1, 2] := by kernel_rfl
@[go_sem] theorem live_24_4 : C.live 24 4 = some [2, 1, 5] := by kernel_rfl
@[go_sem] theorem live_24_6 : C.live 24 6 = some [2, 1, 5] := by kernel_rfl
@[go_sem] theorem live_24_7 : C.live 24 7 = some [] := by kernel_rfl
@[go_sem] theorem live_24_5 : C.live 24 5 = some [5, 1, 2] := by kernel_rfl
@[go_sem] theorem live_24_8 : C.live 24 8 = some [] := by kernel_rfl
@[go_sem] theorem esc_25 : C.esc 25 = [] := by kernel_rfl
@[go_sem] theorem live_25_0 : C.live 25 0 = some [0] := by kernel_rfl
@[go_sem] theorem live_25_1 : C.live 25 1 = some [0] := by kernel_rfl
@[go_sem] theorem esc_26 : C.esc 26 = [2] := by kernel_rfl
@[go_sem] theorem live_26_0 : C.live 26 0 = some [0, 1] := by kernel_rfl
@[go_sem] theorem live_26_1 : C.live 26 1 = some [1, 2] := by kernel_rfl
@[go_sem] theorem esc_27 : C.esc 27 = [] := by kernel_rfl
@[go_sem] theorem live_27_0 : C.live 27 0 = some [0, 1] := by kernel_rfl
@[go_sem] theorem live_27_1 : C.live 27 1 = some [1, 2] := by kernel_rfl
@[go_sem] theorem live_27_2 : C.live 27 2 = some [5, 1, 2] := by kernel_rfl
@[go_sem] theorem live_27_3 : C.live 27 3 = some [5, 6, 1, 2] := by kernel_rfl
@[go_sem] theorem live_27_5 : C.live 27 5 = some [5, 6, 1, 2] := by kernel_rfl
@[go_sem] theorem live_27_4 : C.live 27 4 = some [6, 5, 1, 2] := by kernel_rfl
@[go_sem] theorem live_27_6 : C.live 27 6 = some [5] := by kernel_rfl
@[go_sem] theorem esc_28 : C.esc 28 = [3] := by kernel_rfl
@[go_sem] theorem live_28_0 : C.live 28 0 = some [0] := by kernel_rfl
@[go_sem] theorem live_28_1 : C.live 28 1 = some [1] := by kernel_rfl
@[go_sem] theorem live_28_2 : C.live 28 2 = some [3, 1] := by kernel_rfl
@[go_sem] theorem live_28_3 : C.live 28 3 = some [9, 3, 7, 1, 8] := by kernel_rfl
@[go_sem] theorem live_28_4 : C.live 28 4 = some [9, 3, 7, 1, 8] := by kernel_rfl
@[go_sem] theorem live_28_5 : C.live 28 5 = some [5, 9, 3, 7, 1, 8] := by kernel_rfl
@[go_sem] theorem live_28_6 : C.live 28 6 = some [9, 3, 7, 1, 8] := by kernel_rfl
@[go_sem] theorem live_28_7 : C.live 28 7 = some [1, 3] := by kernel_rfl
@[go_sem] theorem live_28_8 : C.live 28 8 = some [3] := by kernel_rfl
@[go_sem] theorem esc_29 : C.esc 29 = [21] := by kernel_rfl
@[go_sem] theorem live_29_0 : C.live 29 0 = some [0] := by kernel_rfl
@[go_sem] theorem live_29_1 : C.live 29 1 = some [1] := by kernel_rfl
@[go_sem] theorem live_29_2 : C.live 29 2 = some [1, 4] := by kernel_rfl
@[go_sem] theorem live_29_3 : C.live 29 3 = some [4] := by kernel_rfl
@[go_sem] theorem live_29_4 : C.live 29 4 = some [1] := by kernel_rfl
@[go_sem] theorem live_29_5 : C.live 29 5 = some [5, 1] := by kernel_rfl
@[go_sem] theorem live_29_6 : C.live 29 6 = some [24, 1, 23, 5, 25] := by kernel_rfl
@[go_sem] theorem live_29_7 : C.live 29 7 = some [24, 1, 23, 5, 25] := by kernel_rfl
@[go_sem] theorem live_29_8 : C.live 29 8 = some [24, 1, 23, 5, 25, 7] := by kernel_rfl
@[go_sem] theorem live_29_9 : C.live 29 9 = some [] := by kernel_rfl
@[go_sem] theorem live_29_10 : C.live 29 10 = some [7, 25, 5, 23, 1, 24] := by kernel_rfl
@[go_sem] theorem live_29_11 : C.live 29 11 = some [25, 5, 23, 1, 24] := by kernel_rfl
@[go_sem] theorem live_29_12 : C.live 29 12 = some [1, 5] := by kernel_rfl
@[go_sem] theorem live_29_13 : C.live 29 13 = some [8, 1, 5] := by kernel_rfl
@[go_sem] theorem live_29_14 : C.live 29 14 = some [42, 5, 1, 41, 8, 43] := by kernel_rfl
@[go_sem] theorem live_29_15 : C.live 29 15 = some [42, 5, 1, 41, 8, 43] := by kernel_rfl
@[go_sem] theorem live_29_16 : C.live 29 16 = some [42, 5, 1, 41, 8, 43, 10] := by kernel_rfl
@[go_sem] theorem live_29_17 : C.live 29 17 = some [] := by kernel_rfl
@[go_sem] theorem live_29_18 : C.live 29 18 = some [10, 43, 8, 41, 1, 5, 42] := by kernel_rfl
@[go_sem] theorem live_29_19 : C.live 29 19 = some [43, 8, 41, 1, 5, 42] := by kernel_rfl
@[go_sem] theorem live_29_20 : C.live 29 20 = some [1, 5] := by kernel_rfl
@[go_sem] theorem live_29_21 : C.live 29 21 = some [5, 11] := by kernel_rfl
@[go_sem] theorem esc_30 : C.esc 30 = [] := by kernel_rfl
@[go_sem] theorem live_30_0 : C.live 30 0 = some [1, 2, 0] := by kernel_rfl
@[go_sem] theorem live_30_1 : C.live 30 1 = some [12, 2, 0, 10, 11] := by kernel_rfl
@[go_sem] theorem live_30_2 : C.live 30 2 = some [12, 2, 0, 10, 11] := by kernel_rfl
@[go_sem] theorem live_30_3 : C.live 30 3 = some [7, 12, 2, 0, 10, 11] := by kernel_rfl
@[go_sem] theorem live_30_4 : C.live 30 4 = some [7, 8, 12, 2, 0, 10, 11] := by kernel_rfl
@[go_sem] theorem live_30_5 : C.live 30 5 = some [7, 8, 12, 2, 0, 10, 11] := by kernel_rfl
@[go_sem] theorem live_30_6 : C.live 30 6 = some [7, 8, 12, 2, 0, 10, 11] := by kernel_rfl
@[go_sem] theorem live_30_7 : C.live 30 7 = some [7, 9, 8, 12, 2, 0, 10, 11] := by kernel_rfl
@[go_sem] theorem live_30_8 : C.live 30 8 = some [7, 9, 8, 12, 2, 0, 10, 11] := by kernel_rfl
@[go_sem] theorem live_30_9 : C.live 30 9 = some [12, 2, 0, 10, 11] := by kernel_rfl
@[go_sem] theorem esc_31 : C.esc 31 = [] := by kernel_rfl
@[go_sem] theorem live_31_0 : C.live 31 0 = some [0, 1] := by kernel_rfl
@[go_sem] theorem live_31_1 : C.live 31 1 = some [0, 1] := by kernel_rfl
@[go_sem] theorem esc_32 : C.esc 32 = [] := by kernel_rfl
@[go_sem] theorem live_32_0 : C.live 32 0 = some [0, 1] := by kernel_rfl
@[go_sem] theorem live_32_1 : C.live 32 1 = some [1, 2] := by kernel_rfl
@[go_sem] theorem esc_33 : C.esc 33 = [] := by kernel_rfl
@[go_sem] theorem live_33_0 : C.live 33 0 = some [1, 0] := by kernel_rfl
@[go_sem] theorem live_33_1 : C.live 33 1 = some [3, 0] := by kernel_rfl
@[go_sem] theorem esc_34 : C.esc 34 = [] := by kernel_rfl
@[go_sem] theorem live_34_0 : C.live 34 0 = some [1, 0] := by kernel_rfl
@[go_sem] theorem live_34_1 : C.live 34 1 = some [3, 0] := by kernel_rfl
@[go_sem] theorem esc_35 : C.esc 35 = [] := by kernel_rfl
@[go_sem] theorem live_35_0 : C.live 35 0 = some [0] := by kernel_rfl
@[go_sem] theorem live_35_1 : C.live 35 1 = some [1] := by kernel_rfl
@[go_sem] theorem live_35_2 : C.live 35 2 = some [] := by kernel_rfl
@[go_sem] theorem live_35_3 : C.live 35 3 = some [1] := by kernel_rfl
@[go_sem] theorem live_35_4 : C.live 35 4 = some [1, 3] := by kernel_rfl
@[go_sem] theorem live_35_5 : C.live 35 5 = some [3] := by kernel_rfl
@[go_sem] theorem live_35_6 : C.live 35 6 = some [1] := by kernel_rfl
@[go_sem] theorem live_35_7 : C.live 35 7 = some [4] := by kernel_rfl
@[go_sem] theorem live_35_8 : C.live 35 8 = some [4, 5] := by kernel_rfl
@[go_sem] theorem live_35_10 : C.live 35 10 = some [4, 5] := by kernel_rfl
@[go_sem] theorem live_35_11 : C.live 35 11 = some [4, 5] := by kernel_rfl
@[go_sem] theorem live_35_12 : C.live 35 12 = some [4, 5, 6] := by kernel_rfl
@[go_sem] theorem live_35_13 : C.live 35 13 = some [6] := by kernel_rfl
@[go_sem] theorem live_35_9 : C.live 35 9 = some [5, 4] := by kernel_rfl
@[go_sem] theorem live_35_14 : C.live 35 14 = some [4] := by kernel_rfl
@[go_sem] theorem live_35_15 : C.live 35 15 = some [] := by kernel_rfl
@[go_sem] theorem live_35_16 : C.live 35 16 = some [] := by kernel_rfl
@[go_sem] theorem esc_36 : C.esc 36 = [] := by kernel_rfl
@[go_sem] theorem live_36_0 : C.live 36 0 = some [0, 2, 3, 1] := by kernel_rfl
@[go_sem] theorem live_36_1 : C.live 36 1 = some [2, 4, 3, 1, 8] := by kernel_rfl
@[go_sem] theorem live_36_2 : C.live 36 2 = some [2, 4, 3, 1, 9, 8] := by kernel_rfl
@[go_sem] theorem live_36_3 : C.live 36 3 = some [2, 4, 3, 1, 9, 8] := by kernel_rfl
@[go_sem] theorem live_36_4 : C.live 36 4 = some [4, 3, 1, 9, 8] := by kernel_rfl
@[go_sem] theorem live_36_5 : C.live 36 5 = some [3, 1, 9, 8] := by kernel_rfl
@[go_sem] theorem live_36_6 : C.live 36 6 = some [1, 9, 8] := by kernel_rfl
@[go_sem] theorem live_36_7 : C.live 36 7 = some [9, 8] := by kernel_rfl
@[go_sem] theorem esc_37 : C.esc 37 = [] := by kernel_rfl
@[go_sem] theorem live_37_0 : C.live 37 0 = some [0] := by kernel_rfl
@[go_sem] theorem live_37_1 : C.live 37 1 = some [1] := by kernel_rfl
@[go_sem] theorem live_37_2 : C.live 37 2 = some [1, 3] := by kernel_rfl
@[go_sem] theorem live_37_3 : C.live 37 3 = some [3, 4, 1] := by kernel_rfl
@[go_sem] theorem live_37_5 : C.live 37 5 = some [3, 4, 1] := by kernel_rfl
@[go_sem] theorem live_37_4 : C.live 37 4 = some [4, 1, 3] := by kernel_rfl
@[go_sem] theorem live_37_6 : C.live 37 6 = some [1, 3] := by kernel_rfl
@[go_sem] theorem live_37_7 : C.live 37 7 = some [5, 3] := by kernel_rfl
@[go_sem] theorem live_37_8 : C.live 37 8 = some [3, 6, 5] := by kernel_rfl
@[go_sem] theorem live_37_10 : C.live 37 10 = some [3, 6, 5] := by kernel_rfl
@[go_sem] theorem live_37_11 : C.live 37 11 = some [3, 6, 5] := by kernel_rfl
@[go_sem] theorem live_37_9 : C.live 37 9 = some [6, 5, 3] := by kernel_rfl
@[go_sem] theorem live_37_12 : C.live 37 12 = some [3] := by kernel_rfl
@[go_sem] theorem esc_38 : C.esc 38 = [] := by kernel_rfl
@[go_sem] theorem live_38_0 : C.live 38 0 = some [0, 1] := by kernel_rfl
@[go_sem] theorem live_38_1 : C.live 38 1 = some [2, 1] := by kernel_rfl
@[go_sem] theorem live_38_2 : C.live 38 2 = some [1, 2, 5] := by kernel_rfl
@[go_sem] theorem live_38_4 : C.live 38 4 = some [1, 2, 5] := by kernel_rfl
@[go_sem] theorem live_38_5 : C.live 38 5 = some [1, 2, 5, 6] := by kernel_rfl
@[go_sem] theorem live_38_6 : C.live 38 6 = some [9, 8, 1, 2, 5, 7, 6] := by kernel_rfl
@[go_sem] theorem live_38_7 : C.live 38 7 = some [8, 1, 2, 5, 7, 6] := by kernel_rfl
@[go_sem] theorem live_38_8 : C.live 38 8 = some [8, 9, 1, 2, 5, 7, 6] := by kernel_rfl
@[go_sem] theorem live_38_9 : C.live 38 9 = some [1, 2, 5, 7, 6] := by kernel_rfl
@[go_sem] theorem live_38_10 : C.live 38 10 = some [9, 1, 2, 5, 7, 6] := by kernel_rfl
@[go_sem] theorem live_38_11 : C.live 38 11 = some [1, 2, 5, 7, 6] := by kernel_rfl
@[go_sem] theorem live_38_12 : C.live 38 12 = some [9, 1, 2, 5, 7, 6] := by kernel_rfl
@[go_sem] theorem live_38_13 : C.live 38 13 = some [1, 2, 5, 7, 6] := by kernel_rfl
@[go_sem] theorem live_38_14 : C.live 38 14 = some [9, 1, 2, 5, 7, 6] := by kernel_rfl
@[go_sem] theorem live_38_15 : C.live 38 15 = some [1, 2, 5, 7, 6] := by kernel_rfl
@[go_sem] theorem live_38_16 : C.live 38 16 = some [1, 2, 5, 7, 6, 9] := by kernel_rfl
@[go_sem] theorem live_38_17 : C.live 38 17 = some [9] := by kernel_rfl
@[go_sem] theorem live_38_18 : C.live 38 18 = some [6, 7, 5, 2, 1] := by kernel_rfl
@[go_sem] theorem live_38_19 : C.live 38 19 = some [6, 7, 5, 2, 1] := by kernel_rfl
@[go_sem] theorem live_38_3 : C.live 38 3 = some [5, 2, 1] := by kernel_rfl
@[go_sem] theorem live_38_20 : C.live 38 20 = some [] := by kernel_rfl
@[go_sem] theorem esc_39 : C.esc 39 = [] := by kernel_rfl
@[go_sem] theorem live_39_0 : C.live 39 0 = some [1, 2, 0] := by kernel_rfl
@[go_sem] theorem live_39_1 : C.live 39 1 = some [1, 2, 0] := by kernel_rfl
@[go_sem] theorem live_39_2 : C.live 39 2 = some [1, 7, 2, 0] := by kernel_rfl
@[go_sem] theorem live_39_4 : C.live 39 4 = some [1, 7, 2, 0] := by kernel_rfl
@[go_sem] theorem live_39_5 : C.live 39 5 = some [1, 8, 7, 2, 0] := by kernel_rfl
@[go_sem] theorem live_39_6 : C.live 39 6 = some [9, 1, 8, 7, 2, 0] := by kernel_rfl
@[go_sem] theorem live_39_7 : C.live 39 7 = some [9, 1, 8, 7, 2, 0] := by kernel_rfl
@[go_sem] theorem live_39_8 : C.live 39 8 = some [1, 8, 9, 7, 2, 0] := by kernel_rfl
@[go_sem] theorem live_39_9 : C.live 39 9 = some [1, 8, 9, 7, 2, 0] := by kernel_rfl
@[go_sem] theorem live_39_10 : C.live 39 10 = some [10, 1, 8, 9, 7, 2, 0] := by kernel_rfl
@[go_sem] theorem live_39_11 : C.live 39 11 = some [10, 8, 9, 7, 2, 0] := by kernel_rfl
@[go_sem] theorem live_39_12 : C.live 39 12 = some [10, 8, 9, 7, 2, 0] := by kernel_rfl
@[go_sem] theorem live_39_13 : C.live 39 13 = some [1, 8, 9, 7, 2, 0] := by kernel_rfl
@[go_sem] theorem live_39_14 : C.live 39 14 = some [8, 1, 9, 7, 2, 0] := by kernel_rfl
@[go_sem] theorem live_39_3 : C.live 39 3 = some [7, 1, 2, 0] := by kernel_rfl
@[go_sem] theorem live_39_15 : C.live 39 15 = some [1] := by kernel_rfl
@[go_sem] theorem esc_40 : C.esc 40 = [] := by kernel_rfl
@[go_sem] theorem live_40_0 : C.live 40 0 = some [2, 1, 0] := by kernel_rfl
@[go_sem] theorem live_40_1 : C.live 40 1 = some [2, 1, 0] := by kernel_rfl
@[go_sem] theorem live_40_2 : C.live 40 2 = some [0, 7, 2, 1] := by kernel_rfl
@[go_sem] theorem live_40_4 : C.live 40 4 = some [0, 7, 2, 1] := by kernel_rfl
@[go_sem] theorem live_40_5 : C.live 40 5 = some [0, 7, 2, 1] := by kernel_rfl
@[go_sem] theorem live_40_6 : C.live 40 6 = some [0, 7, 2, 1] := by kernel_rfl
@[go_sem] theorem live_40_7 : C.live 40 7 = some [0, 7, 2, 1] := by kernel_rfl
@[go_sem] theorem live_40_8 : C.live 40 8 = some [0, 7, 2, 1] := by kernel_rfl
@[go_sem] theorem live_40_9 : C.live 40 9 = some [0, 7, 2, 1] := by kernel_rfl
@[go_sem] theorem live_40_10 : C.live 40 10 = some [0, 7, 2, 1] := by kernel_rfl
@[go_sem] theorem live_40_3 : C.live 40 3 = some [7, 2, 1, 0] := by kernel_rfl
@[go_sem] theorem live_40_11 : C.live 40 11 = some [0] := by kernel_rfl
@[go_sem] theorem esc_41 : C.esc 41 = [] := by kernel_rfl
@[go_sem] theorem live_41_0 : C.live 41 0 = some [1, 0] := by kernel_rfl
@[go_sem] theorem live_41_1 : C.live 41 1 = some [1, 0] := by kernel_rfl
@[go_sem] theorem live_41_2 : C.live 41 2 = some [0, 1, 5] := by kernel_rfl
@[go_sem] theorem live_41_4 : C.live 41 4 = some [0, 1, 5] := by kernel_rfl
@[go_sem] theorem live_41_5 : C.live 41 5 = some [] := by kernel_rfl
@[go_sem] theorem live_41_3 : C.live 41 3 = some [5, 1, 0] := by kernel_rfl
@[go_sem] theorem live_41_6 : C.live 41 6 = some [] := by kernel_rfl
@[go_sem] theorem esc_42 : C.esc 42 = [] := by kernel_rfl
@[go_sem] theorem live_42_0 : C.live 42 0 = some [0, 1] := by kernel_rfl
@[go_sem] theorem live_42_1 : C.live 42 1 = some [1, 2] := by kernel_rfl
@[go_sem] theorem esc_43 : C.esc 43 = [11] := by kernel_rfl
@[go_sem] theorem live_43_0 : C.live 43 0 = some [0, 1, 2] := by kernel_rfl
@[go_sem] theorem live_43_1 : C.live 43 1 = some [1, 2, 3] := by kernel_rfl
@[go_sem] theorem live_43_2 : C.live 43 2 = some [3, 7] := by kernel_rfl
@[go_sem] theorem live_43_3 : C.live 43 3 = some [7] := by kernel_rfl
@[go_sem] theorem esc_44 : C.esc 44 = [] := by kernel_rfl
@[go_sem] theorem live_44_0 : C.live 44 0 = some [0, 2] := by kernel_rfl
@[go_sem] theorem live_44_1 : C.live 44 1 = some [3, 2] := by kernel_rfl
@[go_sem] theorem live_44_2 : C.live 44 2 = some [3, 2] := by kernel_rfl
@[go_sem] theorem esc_45 : C.esc 45 = [] := by kernel_rfl
@[go_sem] theorem live_45_0 : C.live 45 0 = some [0] := by kernel_rfl
@[go_sem] theorem esc_46 : C.esc 46 = [3] := by kernel_rfl
@[go_sem] theorem live_46_0 : C.live 46 0 = some [0] := by kernel_rfl
@[go_sem] theorem live_46_1 : C.live 46 1 = some [1] := by kernel_rfl
@[go_sem] theorem live_46_2 : C.live 46 2 = some [] := by kernel_rfl
@[go_sem] theorem live_46_3 : C.live 46 3 = some [1] := by kernel_rfl
@[go_sem] theorem live_46_4 : C.live 46 4 = some [1, 3] := by kernel_rfl
@[go_sem] theorem live_46_5 : C.live 46 5 = some [3] := by kernel_rfl
@[go_sem] theorem live_46_6 : C.live 46 6 = some [1, 3] := by kernel_rfl
@[go_sem] theorem live_46_7 : C.live 46 7 = some [4, 3] := by kernel_rfl
@[go_sem] theorem live_46_8 : C.live 46 8 = some [] := by kernel_rfl
@[go_sem] theorem live_46_9 : C.live 46 9 = some [3] := by kernel_rfl
@[go_sem] theorem esc_47 : C.esc 47 = [] := by kernel_rfl
@[go_sem] theorem live_47_0 : C.live 47 0 = some [0, 1, 2] := by kernel_rfl
@[go_sem] theorem live_47_1 : C.live 47 1 = some [0, 1, 2] := by kernel_rfl
@[go_sem] theorem esc_48 : C.esc 48 = [] := by kernel_rfl
@[go_sem] theorem live_48_0 : C.live 48 0 = some [0, 1] := by kernel_rfl
@[go_sem] theorem live_48_1 : C.live 48 1 = some [0, 1] := by kernel_rfl
@[go_sem] theorem live_48_2 : C.live 48 2 = some [11, 1, 10, 0, 12] := by kernel_rfl
@[go_sem] theorem live_48_3 : C.live 48 3 = some [11, 1, 10, 0, 12] := by kernel_rfl
@[go_sem] theorem live_48_4 : C.live 48 4 = some [6, 11, 1, 10, 0, 12] := by kernel_rfl
@[go_sem] theorem live_48_5 : C.live 48 5 = some [11, 1, 10, 0, 12, 7] := by kernel_rfl
@[go_sem] theorem live_48_6 : C.live 48 6 = some [7] := by kernel_rfl
@[go_sem] theorem live_48_7 : C.live 48 7 = some [12, 0, 10, 1, 11] := by kernel_rfl
@[go_sem] theorem live_48_8 : C.live 48 8 = some [1, 0] := by kernel_rfl
@[go_sem] theorem live_48_9 : C.live 48 9 = some [25, 0, 23, 24] := by kernel_rfl
@[go_sem] theorem live_48_10 : C.live 48 10 = some [25, 0, 23, 24] := by kernel_rfl
@[go_sem] theorem live_48_11 : C.live 48 11 = some [9, 25, 0, 23, 24] := by kernel_rfl
@[go_sem] theorem live_48_12 : C.live 48 12 = some [9, 25, 0, 23, 24] := by kernel_rfl
@[go_sem] theorem live_48_13 : C.live 48 13 = some [25, 0, 23, 24] := by kernel_rfl
@[go_sem] theorem live_48_14 : C.live 48 14 = some [] := by kernel_rfl
@[go_sem] theorem esc_49 : C.esc 49 = [] := by kernel_rfl
@[go_sem] theorem live_49_0 : C.live 49 0 = some [0, 1] := by kernel_rfl
@[go_sem] theorem live_49_1 : C.live 49 1 = some [0, 1] := by kernel_rfl
@[go_sem] theorem live_49_2 : C.live 49 2 = some [7, 1, 0, 8] := by kernel_rfl
@[go_sem] theorem live_49_3 : C.live 49 3 = some [7, 1, 0, 8] := by kernel_rfl
@[go_sem] theorem live_49_4 : C.live 49 4 = some [7, 1, 0, 8, 5] := by kernel_rfl
@[go_sem] theorem live_49_5 : C.live 49 5 = some [5] := by kernel_rfl
@[go_sem] theorem live_49_6 : C.live 49 6 = some [8, 0, 1, 7] := by kernel_rfl
@[go_sem] theorem live_49_7 : C.live 49 7 = some [] := by kernel_rfl
@[go_sem] theorem esc_50 : C.esc 50 = [] := by kernel_rfl
@[go_sem] theorem live_50_0 : C.live 50 0 = some [0] := by kernel_rfl
@[go_sem] theorem live_50_1 : C.live 50 1 = some [0] := by kernel_rfl
@[go_sem] theorem esc_51 : C.esc 51 = [] := by kernel_rfl
@[go_sem] theorem live_51_0 : C.live 51 0 = some [0, 1] := by kernel_rfl
@[go_sem] theorem live_51_1 : C.live 51 1 = some [0, 1] := by kernel_rfl
@[go_sem] theorem esc_52 : C.esc 52 = [] := by kernel_rfl
@[go_sem] theorem live_52_0 : C.live 52 0 = some [0] := by kernel_rfl
@[go_sem] theorem live_52_1 : C.live 52 1 = some [0] := by kernel_rfl
@[go_sem] theorem esc_53 : C.esc 53 = [] := by kernel_rfl
@[go_sem] theorem live_53_0 : C.live 53 0 = some [0] := by kernel_rfl
@[go_sem] theorem live_53_1 : C.live 53 1 = some [0] := by kernel_rfl
@[go_sem] theorem live_53_2 : C.live 53 2 = some [] := by kernel_rfl
@[go_sem] theorem live_53_3 : C.live 53 3 = some [0] := by kernel_rfl
@[go_sem] theorem live_53_4 : C.live 53 4 = some [3, 0] := by kernel_rfl
@[go_sem] theorem live_53_6 : C.live 53 6 = some [3, 0] := by kernel_rfl
@[go_sem] theorem live_53_7 : C.live 53 7 = some [] := by kernel_rfl
@[go_sem] theorem live_53_8 : C.live 53 8 = some [0, 3] := by kernel_rfl
@[go_sem] theorem live_53_9 : C.live 53 9 = some [] := by kernel_rfl
@[go_sem] theorem live_53_10 : C.live 53 10 = some [3, 0] := by kernel_rfl
@[go_sem] theorem live_53_11 : C.live 53 11 = some [0, 3, 4] := by kernel_rfl
@[go_sem] theorem live_53_13 : C.live 53 13 = some [0, 3, 4] := by kernel_rfl
@[go_sem] theorem live_53_14 : C.live 53 14 = some [] := by kernel_rfl
@[go_sem] theorem live_53_12 : C.live 53 12 = some [4, 3, 0] := by kernel_rfl
@[go_sem] theorem live_53_5 : C.live 53 5 = some [3, 0] := by kernel_rfl
@[go_sem] theorem live_53_15 : C.live 53 15 = some [] := by kernel_rfl
@[go_sem] theorem esc_54 : C.esc 54 = [] := by kernel_rfl
@[go_sem] theorem live_54_0 : C.live 54 0 = some [0, 1] := by kernel_rfl
@[go_sem] theorem live_54_1 : C.live 54 1 = some [2, 1] := by kernel_rfl
@[go_sem] theorem live_54_2 : C.live 54 2 = some [6, 9, 10, 5, 8, 2, 1, 7] := by kernel_rfl
@[go_sem] theorem live_54_3 : C.live 54 3 = some [] := by kernel_rfl
@[go_sem] theorem live_54_4 : C.live 54 4 = some [7, 1, 2, 8, 5] := by kernel_rfl
@[go_sem] theorem live_54_5 : C.live 54 5 = some [] := by kernel_rfl
@[go_sem] theorem live_54_6 : C.live 54 6 = some [5, 8, 2, 1, 7] := by kernel_rfl
@[go_sem] theorem live_54_7 : C.live 54 7 = some [] := by kernel_rfl
@[go_sem] theorem live_54_8 : C.live 54 8 = some [7, 1, 2, 8] := by kernel_rfl
@[go_sem] theorem live_54_9 : C.live 54 9 = some [1, 2, 8] := by kernel_rfl
@[go_sem] theorem live_54_10 : C.live 54 10 = some [1, 2, 8, 11] := by kernel_rfl
@[go_sem] theorem live_54_11 : C.live 54 11 = some [11] := by kernel_rfl
@[go_sem] theorem live_54_12 : C.live 54 12 = some [8, 2, 1] := by kernel_rfl
@[go_sem] theorem live_54_13 : C.live 54 13 = some [2, 1] := by kernel_rfl
@[go_sem] theorem live_54_14 : C.live 54 14 = some [1, 12] := by kernel_rfl
@[go_sem] theorem live_54_15 : C.live 54 15 = some [12] := by kernel_rfl
@[go_sem] theorem live_54_16 : C.live 54 16 = some [1] := by kernel_rfl
@[go_sem] theorem live_54_17 : C.live 54 17 = some [] := by kernel_rfl
@[go_sem] theorem live_54_18 : C.live 54 18 = some [] := by kernel_rfl
@[go_sem] theorem esc_55 : C.esc 55 = [] := by kernel_rfl
@[go_sem] theorem live_55_0 : C.live 55 0 = some [0, 1] := by kernel_rfl
@[go_sem] theorem live_55_1 : C.live 55 1 = some [3, 2] := by kernel_rfl
@[go_sem] theorem live_55_2 : C.live 55 2 = some [] := by kernel_rfl
@[go_sem] theorem live_55_3 : C.live 55 3 = some [2, 3] := by kernel_rfl
@[go_sem] theorem live_55_4 : C.live 55 4 = some [2, 3, 7, 8] := by kernel_rfl
@[go_sem] theorem live_55_5 : C.live 55 5 = some [7, 8] := by kernel_rfl
@[go_sem] theorem live_55_6 : C.live 55 6 = some [3, 2, 7] := by kernel_rfl
@[go_sem] theorem live_55_7 : C.live 55 7 = some [7, 9, 8] := by kernel_rfl
@[go_sem] theorem esc_56 : C.esc 56 = [] := by kernel_rfl
@[go_sem] theorem live_56_0 : C.live 56 0 = some [0, 2, 1] := by kernel_rfl
@[go_sem] theorem live_56_1 : C.live 56 1 = some [2, 3, 1] := by kernel_rfl
@[go_sem] theorem live_56_2 : C.live 56 2 = some [7, 2, 3, 1, 8] := by kernel_rfl
@[go_sem] theorem live_56_3 : C.live 56 3 = some [8] := by kernel_rfl
@[go_sem] theorem live_56_4 : C.live 56 4 = some [1, 3, 2, 7] := by kernel_rfl
@[go_sem] theorem live_56_5 : C.live 56 5 = some [7, 2, 3, 1, 9] := by kernel_rfl
@[go_sem] theorem live_56_7 : C.live 56 7 = some [7, 2, 3, 1, 9] := by kernel_rfl
@[go_sem] theorem live_56_8 : C.live 56 8 = some [] := by kernel_rfl
@[go_sem] theorem live_56_6 : C.live 56 6 = some [9, 1, 3, 2, 7] := by kernel_rfl
@[go_sem] theorem live_56_9 : C.live 56 9 = some [2, 7] := by kernel_rfl
@[go_sem] theorem live_56_10 : C.live 56 10 = some [] := by kernel_rfl
@[go_sem] theorem live_56_11 : C.live 56 11 = some [] := by kernel_rfl
@[go_sem] theorem esc_57 : C.esc 57 = [] := by kernel_rfl
@[go_sem] theorem live_57_0 : C.live 57 0 = some [0, 1, 2] := by kernel_rfl
@[go_sem] theorem live_57_1 : C.live 57 1 = some [0, 1, 2] := by kernel_rfl
@[go_sem] theorem live_57_2 : C.live 57 2 = some [7, 1, 2] := by kernel_rfl
@[go_sem] theorem live_57_4 : C.live 57 4 = some [7, 2, 1] := by kernel_rfl
@[go_sem] theorem live_57_6 : C.live 57 6 = some [2, 7, 1] := by kernel_rfl
@[go_sem] theorem live_57_8 : C.live 57 8 = some [7, 1, 2] := by kernel_rfl
@[go_sem] theorem live_57_10 : C.live 57 10 = some [7, 1] := by kernel_rfl
@[go_sem] theorem live_57_11 : C.live 57 11 = some [1] := by kernel_rfl
@[go_sem] theorem live_57_9 : C.live 57 9 = some [1, 2] := by kernel_rfl
@[go_sem] theorem live_57_7 : C.live 57 7 = some [1] := by kernel_rfl
@[go_sem] theorem live_57_5 : C.live 57 5 = some [1] := by kernel_rfl
@[go_sem] theorem live_57_3 : C.live 57 3 = some [1, 2] := by kernel_rfl
@[go_sem] theorem live_57_12 : C.live 57 12 = some [] := by kernel_rfl
@[go_sem] theorem esc_58 : C.esc 58 = [] := by kernel_rfl
@[go_sem] theorem live_58_0 : C.live 58 0 = some [0] := by kernel_rfl
@[go_sem] theorem live_58_1 : C.live 58 1 = some [1] := by kernel_rfl
@[go_sem] theorem esc_59 : C.esc 59 = [] := by kernel_rfl
@[go_sem] theorem live_59_0 : C.live 59 0 = some [1, 2, 0] := by kernel_rfl
@[go_sem] theorem live_59_1 : C.live 59 1 = some [4, 2, 0] := by kernel_rfl
@[go_sem] theorem live_59_2 : C.live 59 2 = some [0] := by kernel_rfl
@[go_sem] theorem live_59_3 : C.live 59 3 = some [0, 2, 4] := by kernel_rfl
@[go_sem] theorem live_59_4 : C.live 59 4 = some [4, 0] := by kernel_rfl
@[go_sem] theorem live_59_5 : C.live 59 5 = some [0, 7, 4] := by kernel_rfl
@[go_sem] theorem live_59_7 : C.live 59 7 = some [0, 7, 4] := by kernel_rfl
@[go_sem] theorem live_59_6 : C.live 59 6 = some [7, 4, 0] := by kernel_rfl
@[go_sem] theorem live_59_8 : C.live 59 8 = some [0] := by kernel_rfl
@[go_sem] theorem esc_60 : C.esc 60 = [] := by kernel_rfl
@[go_sem] theorem live_60_0 : C.live 60 0 = some [1, 0, 2] := by kernel_rfl
@[go_sem] theorem live_60_1 : C.live 60 1 = some [9, 8, 2, 0, 10] := by kernel_rfl
@[go_sem] theorem live_60_2 : C.live 60 2 = some [9, 8, 2, 0, 10] := by kernel_rfl
@[go_sem] theorem live_60_3 : C.live 60 3 = some [9, 8, 2, 0, 10, 7] := by kernel_rfl
@[go_sem] theorem live_60_4 : C.live 60 4 = some [7, 10, 0, 2, 8, 9] := by kernel_rfl
@[go_sem] theorem live_60_5 : C.live 60 5 = some [7, 10, 0, 2, 8, 9] := by kernel_rfl
@[go_sem] theorem live_60_6 : C.live 60 6 = some [7, 10, 0, 2, 8, 9] := by kernel_rfl
@[go_sem] theorem live_60_7 : C.live 60 7 = some [7, 10, 0, 2, 8, 9] := by kernel_rfl
@[go_sem] theorem live_60_8 : C.live 60 8 = some [7, 10, 0, 2, 8, 9] := by kernel_rfl
@[go_sem] theorem live_60_9 : C.live 60 9 = some [7, 10, 0, 2, 8, 9] := by kernel_rfl
@[go_sem] theorem live_60_10 : C.live 60 10 = some [10, 0, 2, 8, 9] := by kernel_rfl
@[go_sem] theorem esc_61 : C.esc 61 = [] := by kernel_rfl
@[go_sem] theorem live_61_0 : C.live 61 0 = some [0] := by kernel_rfl
@[go_sem] theorem live_61_1 : C.live 61 1 = some [0] := by kernel_rfl
@[go_sem] theorem esc_62 : C.esc 62 = [4] := by kernel_rfl
@[go_sem] theorem live_62_0 : C.live 62 0 = some [0] := by kernel_rfl
@[go_sem] theorem live_62_1 : C.live 62 1 = some [0] := by kernel_rfl
@[go_sem] theorem live_62_2 : C.live 62 2 = some [] := by kernel_rfl
@[go_sem] theorem live_62_3 : C.live 62 3 = some [0] := by kernel_rfl
@[go_sem] theorem live_62_4 : C.live 62 4 = some [9, 8, 0, 10] := by kernel_rfl
@[go_sem] theorem live_62_5 : C.live 62 5 = some [9, 8, 0, 10] := by kernel_rfl
@[go_sem] theorem live_62_6 : C.live 62 6 = some [3, 4, 9, 8, 0, 10] := by kernel_rfl
@[go_sem] theorem live_62_8 : C.live 62 8 = some [10, 0, 8, 9, 4, 3] := by kernel_rfl
@[go_sem] theorem live_62_10 : C.live 62 10 = some [3, 4, 9, 8, 0, 10] := by kernel_rfl
@[go_sem] theorem live_62_11 : C.live 62 11 = some [] := by kernel_rfl
@[go_sem] theorem live_62_9 : C.live 62 9 = some [] := by kernel_rfl
@[go_sem] theorem live_62_7 : C.live 62 7 = some [] := by kernel_rfl
@[go_sem] theorem live_62_12 : C.live 62 12 = some [10, 0, 8, 9] := by kernel_rfl
@[go_sem] theorem live_62_13 : C.live 62 13 = some [] := by kernel_rfl
@[go_sem] theorem esc_63 : C.esc 63 = [] := by kernel_rfl
@[go_sem] theorem live_63_0 : C.live 63 0 = some [0, 1, 2] := by kernel_rfl
@[go_sem] theorem live_63_1 : C.live 63 1 = some [3, 1, 2] := by kernel_rfl
@[go_sem] theorem live_63_2 : C.live 63 2 = some [3, 1, 2] := by kernel_rfl
@[go_sem] theorem esc_64 : C.esc 64 = [] := by kernel_rfl
@[go_sem] theorem live_64_0 : C.live 64 0 = some [0, 1] := by kernel_rfl
@[go_sem] theorem live_64_1 : C.live 64 1 = some [1, 2] := by kernel_rfl
@[go_sem] theorem live_64_2 : C.live 64 2 = some [6, 1, 2, 5] := by kernel_rfl
@[go_sem] theorem live_64_3 : C.live 64 3 = some [] := by kernel_rfl
@[go_sem] theorem live_64_4 : C.live 64 4 = some [5, 2, 1] := by kernel_rfl
@[go_sem] theorem live_64_5 : C.live 64 5 = some [] := by kernel_rfl
@[go_sem] theorem live_64_6 : C.live 64 6 = some [1, 2, 5] := by kernel_rfl
@[go_sem] theorem live_64_7 : C.live 64 7 = some [1, 2, 5] := by kernel_rfl
@[go_sem] theorem live_64_8 : C.live 64 8 = some [1, 2, 5, 7] := by kernel_rfl
@[go_sem] theorem live_64_9 : C.live 64 9 = some [7] := by kernel_rfl
@[go_sem] theorem live_64_10 : C.live 64 10 = some [5, 2, 1] := by kernel_rfl
@[go_sem] theorem live_64_11 : C.live 64 11 = some [2, 1] := by kernel_rfl
@[go_sem] theorem live_64_12 : C.live 64 12 = some [1, 8] := by kernel_rfl
@[go_sem] theorem live_64_13 : C.live 64 13 = some [8] := by kernel_rfl
@[go_sem] theorem live_64_14 : C.live 64 14 = some [1] := by kernel_rfl
@[go_sem] theorem live_64_15 : C.live 64 15 = some [] := by kernel_rfl
@[go_sem] theorem live_64_16 : C.live 64 16 = some [] := by kernel_rfl
@[go_sem] theorem esc_65 : C.esc 65 = [] := by kernel_rfl
@[go_sem] theorem live_65_0 : C.live 65 0 = some [1, 0] := by kernel_rfl
@[go_sem] theorem live_65_1 : C.live 65 1 = some [3, 0] := by kernel_rfl
@[go_sem] theorem live_65_2 : C.live 65 2 = some [5, 3, 0, 6, 7] := by kernel_rfl
@[go_sem] theorem live_65_3 : C.live 65 3 = some [7] := by kernel_rfl
@[go_sem] theorem live_65_4 : C.live 65 4 = some [6, 0, 3, 5] := by kernel_rfl
@[go_sem] theorem live_65_5 : C.live 65 5 = some [23, 6, 0, 3, 5] := by kernel_rfl
@[go_sem] theorem live_65_7 : C.live 65 7 = some [6, 23, 5, 3, 0] := by kernel_rfl
@[go_sem] theorem live_65_15 : C.live 65 15 = some [3, 0, 23, 5, 6] := by kernel_rfl
@[go_sem] theorem live_65_18 : C.live 65 18 = some [6, 23, 0, 3, 5] := by kernel_rfl
@[go_sem] theorem live_65_21 : C.live 65 21 = some [3, 0, 23, 6, 5] := by kernel_rfl
@[go_sem] theorem live_65_24 : C.live 65 24 = some [6, 23, 5, 0, 3] := by kernel_rfl
@[go_sem] theorem live_65_31 : C.live 65 31 = some [23, 5, 6, 3, 0] := by kernel_rfl
@[go_sem] theorem live_65_32 : C.live 65 32 = some [5, 6, 3, 0] := by kernel_rfl
@[go_sem] theorem live_65_33 : C.live 65 33 = some [] := by kernel_rfl
@[go_sem] theorem live_65_34 : C.live 65 34 = some [0, 3] := by kernel_rfl
@[go_sem] theorem live_65_35 : C.live 65 35 = some [0, 3] := by kernel_rfl
@[go_sem] theorem live_65_36 : C.live 65 36 = some [0, 3] := by kernel_rfl
@[go_sem] theorem live_65_37 : C.live 65 37 = some [0, 3, 11] := by kernel_rfl
@[go_sem] theorem live_65_38 : C.live 65 38 = some [11] := by kernel_rfl
@[go_sem] theorem live_65_25 : C.live 65 25 = some [5, 0, 3] := by kernel_rfl
@[go_sem] theorem live_65_26 : C.live 65 26 = some [] := by kernel_rfl
@[go_sem] theorem live_65_27 : C.live 65 27 = some [3, 0] := by kernel_rfl
@[go_sem] theorem live_65_28 : C.live 65 28 = some [3, 0, 10] := by kernel_rfl
@[go_sem] theorem live_65_29 : C.live 65 29 = some [10] := by kernel_rfl
@[go_sem] theorem live_65_30 : C.live 65 30 = some [0, 3] := by kernel_rfl
@[go_sem] theorem live_65_22 : C.live 65 22 = some [5] := by kernel_rfl
@[go_sem] theorem live_65_23 : C.live 65 23 = some [] := by kernel_rfl
@[go_sem] theorem live_65_19 : C.live 65 19 = some [5] := by kernel_rfl
@[go_sem] theorem live_65_20 : C.live 65 20 = some [] := by kernel_rfl
@[go_sem] theorem live_65_16 : C.live 65 16 = some [5, 6] := by kernel_rfl
@[go_sem] theorem live_65_17 : C.live 65 17 = some [] := by kernel_rfl
@[go_sem] theorem live_65_8 : C.live 65 8 = some [5, 3, 0] := by kernel_rfl
@[go_sem] theorem live_65_9 : C.live 65 9 = some [9, 8, 5, 3, 0] := by kernel_rfl
@[go_sem] theorem live_65_11 : C.live 65 11 = some [0, 3, 5, 8] := by kernel_rfl
@[go_sem] theorem live_65_13 : C.live 65 13 = some [8, 5] := by kernel_rfl
@[go_sem] theorem live_65_14 : C.live 65 14 = some [] := by kernel_rfl
@[go_sem] theorem live_65_12 : C.live 65 12 = some [] := by kernel_rfl
@[go_sem] theorem live_65_10 : C.live 65 10 = some [] := by kernel_rfl
@[go_sem] theorem live_65_6 : C.live 65 6 = some [0, 3, 5] := by kernel_rfl
@[go_sem] theorem live_65_39 : C.live 65 39 = some [] := by kernel_rfl
@[go_sem] theorem esc_66 : C.esc 66 = [] := by kernel_rfl
@[go_sem] theorem live_66_0 : C.live 66 0 = some [0, 1] := by kernel_rfl
@[go_sem] theorem live_66_1 : C.live 66 1 = some [0, 1] := by kernel_rfl
@[go_sem] theorem live_66_2 : C.live 66 2 = some [7, 1, 0, 8] := by kernel_rfl
@[go_sem] theorem live_66_3 : C.live 66 3 = some [7, 1, 0, 8] := by kernel_rfl
@[go_sem] theorem live_66_4 : C.live 66 4 = some [7, 1, 0, 8, 5] := by kernel_rfl
@[go_sem] theorem live_66_5 : C.live 66 5 = some [5] := by kernel_rfl
@[go_sem] theorem live_66_6 : C.live 66 6 = some [8, 0, 1, 7] := by kernel_rfl
@[go_sem] theorem live_66_7 : C.live 66 7 = some [] := by kernel_rfl
@[go_sem] theorem esc_67 : C.esc 67 = [] := by kernel_rfl
@[go_sem] theorem live_67_0 : C.live 67 0 = some [0] := by kernel_rfl
@[go_sem] theorem live_67_1 : C.live 67 1 = some [0] := by kernel_rfl
@[go_sem] theorem esc_68 : C.esc 68 = [] := by kernel_rfl
@[go_sem] theorem live_68_0 : C.live 68 0 = some [1, 0] := by kernel_rfl
@[go_sem] theorem live_68_1 : C.live 68 1 = some [1, 0] := by kernel_rfl
@[go_sem] theorem live_68_2 : C.live 68 2 = some [1, 0] := by kernel_rfl
@[go_sem] theorem live_68_3 : C.live 68 3 = some [1] := by kernel_rfl
@[go_sem] theorem esc_69 : C.esc 69 = [] := by kernel_rfl
@[go_sem] theorem live_69_0 : C.live 69 0 = some [0] := by kernel_rfl
@[go_sem] theorem live_69_1 : C.live 69 1 = some [0] := by kernel_rfl
@[go_sem] theorem esc_70 : C.esc 70 = [] := by kernel_rfl
@[go_sem] theorem live_70_0 : C.live 70 0 = some [0] := by kernel_rfl
@[go_sem] theorem live_70_1 : C.live 70 1 = some [0] := by kernel_rfl
@[go_sem] theorem live_70_2 : C.live 70 2 = some [8] := by kernel_rfl
@[go_sem] theorem live_70_3 : C.live 70 3 = some [8] := by kernel_rfl
@[go_sem] theorem live_70_5 : C.live 70 5 = some [8] := by kernel_rfl
@[go_sem] theorem live_70_7 : C.live 70 7 = some [8] := by kernel_rfl
@[go_sem] theorem live_70_8 : C.live 70 8 = some [8] := by kernel_rfl
@[go_sem] theorem live_70_10 : C.live 70 10 = some [8] := by kernel_rfl
@[go_sem] theorem live_70_12 : C.live 70 12 = some [8] := by kernel_rfl
@[go_sem] theorem live_70_13 : C.live 70 13 = some [] := by kernel_rfl
@[go_sem] theorem live_70_11 : C.live 70 11 = some [] := by kernel_rfl
@[go_sem] theorem live_70_9 : C.live 70 9 = some [] := by kernel_rfl
@[go_sem] theorem live_70_6 : C.live 70 6 = some [] := by kernel_rfl
@[go_sem] theorem live_70_4 : C.live 70 4 = some [] := by kernel_rfl
@[go_sem] theorem live_70_14 : C.live 70 14 = some [] := by kernel_rfl
@[go_sem] theorem esc_71 : C.esc 71 = [] := by kernel_rfl
@[go_sem] theorem live_71_0 : C.live 71 0 = some [0] := by kernel_rfl
@[go_sem] theorem live_71_1 : C.live 71 1 = some [1] := by kernel_rfl
@[go_sem] theorem esc_72 : C.esc 72 = [] := by kernel_rfl
@[go_sem] theorem live_72_0 : C.live 72 0 = some [0, 1] := by kernel_rfl
@[go_sem] theorem live_72_1 : C.live 72 1 = some [1, 2] := by kernel_rfl
@[go_sem] theorem live_72_2 : C.live 72 2 = some [1, 2, 6] := by kernel_rfl
@[go_sem] theorem live_72_3 : C.live 72 3 = some [6] := by kernel_rfl
@[go_sem] theorem live_72_4 : C.live 72 4 = some [2, 1] := by kernel_rfl
@[go_sem] theorem esc_73 : C.esc 73 = [] := by kernel_rfl
@[go_sem] theorem live_73_0 : C.live 73 0 = some [0, 1] := by kernel_rfl
@[go_sem] theorem live_73_1 : C.live 73 1 = some [0, 1] := by kernel_rfl
@[go_sem] theorem live_73_2 : C.live 73 2 = some [1, 6, 0] := by kernel_rfl
@[go_sem] theorem live_73_4 : C.live 73 4 = some [1, 6, 0] := by kernel_rfl
@[go_sem] theorem live_73_5 : C.live 73 5 = some [6, 0] := by kernel_rfl
@[go_sem] theorem live_73_6 : C.live 73 6 = some [] := by kernel_rfl
@[go_sem] theorem live_73_7 : C.live 73 7 = some [0, 6] := by kernel_rfl
@[go_sem] theorem live_73_3 : C.live 73 3 = some [6, 0, 1] := by kernel_rfl
@[go_sem] theorem live_73_8 : C.live 73 8 = some [] := by kernel_rfl
@[go_sem] theorem esc_74 : C.esc 74 = [] := by kernel_rfl
@[go_sem] theorem live_74_0 : C.live 74 0 = some [1, 0] := by kernel_rfl
@[go_sem] theorem live_74_1 : C.live 74 1 = some [3, 0] := by kernel_rfl
@[go_sem] theorem live_74_2 : C.live 74 2 = some [0, 3] := by kernel_rfl
@[go_sem] theorem live_74_3 : C.live 74 3 = some [0, 3] := by kernel_rfl
@[go_sem] theorem esc_75 : C.esc 75 = [] := by kernel_rfl
@[go_sem] theorem live_75_0 : C.live 75 0 = some [0] := by kernel_rfl
@[go_sem] theorem live_75_1 : C.live 75 1 = some [0] := by kernel_rfl
@[go_sem] theorem esc_76 : C.esc 76 = [] := by kernel_rfl
@[go_sem] theorem live_76_0 : C.live 76 0 = some [0] := by kernel_rfl
@[go_sem] theorem live_76_1 : C.live 76 1 = some [0] := by kernel_rfl
@[go_sem] theorem live_76_2 : C.live 76 2 = some [6, 0] := by kernel_rfl
@[go_sem] theorem live_76_3 : C.live 76 3 = some [7, 6, 0] := by kernel_rfl
@[go_sem] theorem live_76_4 : C.live 76 4 = some [4, 6, 0, 3] := by kernel_rfl
@[go_sem] theorem live_76_5 : C.live 76 5 = some [3] := by kernel_rfl
@[go_sem] theorem live_76_6 : C.live 76 6 = some [0] := by kernel_rfl
@[go_sem] theorem esc_77 : C.esc 77 = [] := by kernel_rfl
@[go_sem] theorem live_77_0 : C.live 77 0 = some [0] := by kernel_rfl
@[go_sem] theorem live_77_1 : C.live 77 1 = some [0] := by kernel_rfl
@[go_sem] theorem live_77_2 : C.live 77 2 = some [3] := by kernel_rfl
@[go_sem] theorem live_77_3 : C.live 77 3 = some [3] := by kernel_rfl
@[go_sem] theorem live_77_4 : C.live 77 4 = some [3] := by kernel_rfl
@[go_sem] theorem live_77_5 : C.live 77 5 = some [3] := by kernel_rfl
@[go_sem] theorem live_77_6 : C.live 77 6 = some [3] := by kernel_rfl
@[go_sem] theorem live_77_7 : C.live 77 7 = some [3] := by kernel_rfl
@[go_sem] theorem live_77_8 : C.live 77 8 = some [3] := by kernel_rfl
@[go_sem] theorem live_77_9 : C.live 77 9 = some [3] := by kernel_rfl
@[go_sem] theorem live_77_10 : C.live 77 10 = some [3] := by kernel_rfl
@[go_sem] theorem live_77_11 : C.live 77 11 = some [3] := by kernel_rfl
@[go_sem] theorem live_77_12 : C.live 77 12 = some [3] := by kernel_rfl
@[go_sem] theorem live_77_13 : C.live 77 13 = some [3] := by kernel_rfl
@[go_sem] theorem live_77_14 : C.live 77 14 = some [3] := by kernel_rfl
@[go_sem] theorem live_77_15 : C.live 77 15 = some [3] := by kernel_rfl
@[go_sem] theorem live_77_16 : C.live 77 16 = some [3] := by kernel_rfl
@[go_sem] theorem live_77_17 : C.live 77 17 = some [3] := by kernel_rfl
@[go_sem] theorem live_77_18 : C.live 77 18 = some [3] := by kernel_rfl
@[go_sem] theorem live_77_19 : C.live 77 19 = some [3] := by kernel_rfl
@[go_sem] theorem live_77_20 : C.live 77 20 = some [3] := by kernel_rfl
@[go_sem] theorem live_77_21 : C.live 77 21 = some [3] := by kernel_rfl
@[go_sem] theorem live_77_22 : C.live 77 22 = some [3] := by kernel_rfl
@[go_sem] theorem live_77_23 : C.live 77 23 = some [3] := by kernel_rfl
@[go_sem] theorem live_77_24 : C.live 77 24 = some [3] := by kernel_rfl
@[go_sem] theorem live_77_25 : C.live 77 25 = some [3] := by kernel_rfl
@[go_sem] theorem live_77_26 : C.live 77 26 = some [3] := by kernel_rfl
@[go_sem] theorem live_77_27 : C.live 77 27 = some [] := by kernel_rfl
@[go_sem] theorem live_77_28 : C.live 77 28 = some [] := by kernel_rfl
@[go_sem] theorem esc_78 : C.esc 78 = [] := by kernel_rfl
@[go_sem] theorem live_78_0 : C.live 78 0 = some [0, 1] := by kernel_rfl
@[go_sem] theorem live_78_1 : C.live 78 1 = some [0, 1] := by kernel_rfl
@[go_sem] theorem esc_79 : C.esc 79 = [] := by kernel_rfl
@[go_sem] theorem live_79_0 : C.live 79 0 = some [0, 1] := by kernel_rfl
@[go_sem] theorem live_79_1 : C.live 79 1 = some [2, 1] := by kernel_rfl
@[go_sem] theorem esc_80 : C.esc 80 = [] := by kernel_rfl
@[go_sem] theorem live_80_0 : C.live 80 0 = some [0] := by kernel_rfl
@[go_sem] theorem live_80_1 : C.live 80 1 = some [0, 2] := by kernel_rfl
@[go_sem] theorem live_80_2 : C.live 80 2 = some [4, 2] := by kernel_rfl
@[go_sem] theorem live_80_3 : C.live 80 3 = some [4, 2] := by kernel_rfl
@[go_sem] theorem live_80_5 : C.live 80 5 = some [4, 2] := by kernel_rfl
@[go_sem] theorem live_80_7 : C.live 80 7 = some [4, 2] := by kernel_rfl
@[go_sem] theorem live_80_8 : C.live 80 8 = some [4, 2] := by kernel_rfl
@[go_sem] theorem live_80_10 : C.live 80 10 = some [4, 2] := by kernel_rfl
@[go_sem] theorem live_80_12 : C.live 80 12 = some [4, 2] := by kernel_rfl
@[go_sem] theorem live_80_14 : C.live 80 14 = some [4, 2] := by kernel_rfl
@[go_sem] theorem live_80_15 : C.live 80 15 = some [2] := by kernel_rfl
@[go_sem] theorem live_80_13 : C.live 80 13 = some [2] := by kernel_rfl
@[go_sem] theorem live_80_11 : C.live 80 11 = some [2] := by kernel_rfl
@[go_sem] theorem live_80_9 : C.live 80 9 = some [2] := by kernel_rfl
@[go_sem] theorem live_80_6 : C.live 80 6 = some [2] := by kernel_rfl
@[go_sem] theorem live_80_4 : C.live 80 4 = some [2] := by kernel_rfl
@[go_sem] theorem live_80_16 : C.live 80 16 = some [2] := by kernel_rfl
@[go_sem] theorem esc_81 : C.esc 81 = [] := by kernel_rfl
@[go_sem] theorem live_81_0 : C.live 81 0 = some [0, 1] := by kernel_rfl
@[go_sem] theorem live_81_1 : C.live 81 1 = some [3, 2] := by kernel_rfl
@[go_sem] theorem live_81_2 : C.live 81 2 = some [] := by kernel_rfl
@[go_sem] theorem live_81_3 : C.live 81 3 = some [2] := by kernel_rfl
@[go_sem] theorem live_81_4 : C.live 81 4 = some [68, 2] := by kernel_rfl
@[go_sem] theorem live_81_6 : C.live 81 6 = some [68, 2] := by kernel_rfl
@[go_sem] theorem live_81_7 : C.live 81 7 = some [2] := by kernel_rfl
@[go_sem] theorem live_81_5 : C.live 81 5 = some [2] := by kernel_rfl
@[go_sem] theorem live_81_8 : C.live 81 8 = some [] := by kernel_rfl
@[go_sem] theorem esc_82 : C.esc 82 = [] := by kernel_rfl
@[go_sem] theorem live_82_0 : C.live 82 0 = some [0] := by kernel_rfl
@[go_sem] theorem live_82_1 : C.live 82 1 = some [1] := by kernel_rfl
@[go_sem] theorem esc_83 : C.esc 83 = [] := by kernel_rfl
@[go_sem] theorem live_83_0 : C.live 83 0 = some [1, 0] := by kernel_rfl
@[go_sem] theorem live_83_1 : C.live 83 1 = some [0, 3, 5] := by kernel_rfl
@[go_sem] theorem live_83_2 : C.live 83 2 = some [] := by kernel_rfl
@[go_sem] theorem live_83_3 : C.live 83 3 = some [5, 3, 0] := by kernel_rfl
@[go_sem] theorem live_83_4 : C.live 83 4 = some [6, 5, 3, 0, 4] := by kernel_rfl
@[go_sem] theorem live_83_5 : C.live 83 5 = some [3, 0, 4] := by kernel_rfl
@[go_sem] theorem live_83_6 : C.live 83 6 = some [4, 5, 6] := by kernel_rfl
@[go_sem] theorem esc_84 : C.esc 84 = [] := by kernel_rfl
@[go_sem] theorem live_84_0 : C.live 84 0 = some [0] := by kernel_rfl
@[go_sem] theorem live_84_1 : C.live 84 1 = some [0] := by kernel_rfl
@[go_sem] theorem esc_85 : C.esc 85 = [] := by kernel_rfl
@[go_sem] theorem live_85_0 : C.live 85 0 = some [1, 0] := by kernel_rfl
@[go_sem] theorem live_85_1 : C.live 85 1 = some [1, 0] := by kernel_rfl
@[go_sem] theorem live_85_2 : C.live 85 2 = some [0, 1, 5] := by kernel_rfl
@[go_sem] theorem live_85_4 : C.live 85 4 = some [0, 1, 5] := by kernel_rfl
@[go_sem] theorem live_85_5 : C.live 85 5 = some [] := by kernel_rfl
@[go_sem] theorem live_85_3 : C.live 85 3 = some [5, 1, 0] := by kernel_rfl
@[go_sem] theorem live_85_6 : C.live 85 6 = some [] := by kernel_rfl
@[go_sem] theorem esc_86 : C.esc 86 = [] := by kernel_rfl
@[go_sem] theorem live_86_0 : C.live 86 0 = some [] := by kernel_rfl
@[go_sem] theorem live_86_1 : C.live 86 1 = some [] := by kernel_rfl
@[go_sem] theorem esc_87 : C.esc 87 = [] := by kernel_rfl
@[go_sem] theorem live_87_0 : C.live 87 0 = some [0, 1] := by kernel_rfl
@[go_sem] theorem live_87_1 : C.live 87 1 = some [2, 1] := by kernel_rfl
@[go_sem] theorem live_87_2 : C.live 87 2 = some [2, 1, 5] := by kernel_rfl
@[go_sem] theorem live_87_3 : C.live 87 3 = some [5] := by kernel_rfl
@[go_sem] theorem live_87_4 : C.live 87 4 = some [1, 2] := by kernel_rfl
@[go_sem] theorem live_87_5 : C.live 87 5 = some [2, 1, 6] := by kernel_rfl
@[go_sem] theorem live_87_7 : C.live 87 7 = some [2, 1, 6] := by kernel_rfl
@[go_sem] theorem live_87_8 : C.live 87 8 = some [2, 1, 6, 7] := by kernel_rfl
@[go_sem] theorem live_87_9 : C.live 87 9 = some [7] := by kernel_rfl
@[go_sem] theorem live_87_6 : C.live 87 6 = some [6, 1, 2] := by kernel_rfl
@[go_sem] theorem live_87_10 : C.live 87 10 = some [] := by kernel_rfl
@[go_sem] theorem esc_88 : C.esc 88 = [] := by kernel_rfl
@[go_sem] theorem live_88_0 : C.live 88 0 = some [0, 1] := by kernel_rfl
@[go_sem] theorem live_88_1 : C.live 88 1 = some [2, 1] := by kernel_rfl
@[go_sem] theorem live_88_2 : C.live 88 2 = some [6, 2, 1] := by kernel_rfl
@[go_sem] theorem live_88_3 : C.live 88 3 = some [2, 1] := by kernel_rfl
@[go_sem] theorem live_88_4 : C.live 88 4 = some [2, 1, 6] := by kernel_rfl
@[go_sem] theorem live_88_5 : C.live 88 5 = some [7, 2, 1, 6, 8] := by kernel_rfl
@[go_sem] theorem live_88_6 : C.live 88 6 = some [8] := by kernel_rfl
@[go_sem] theorem live_88_7 : C.live 88 7 = some [6, 1, 2, 7] := by kernel_rfl
@[go_sem] theorem live_88_8 : C.live 88 8 = some [2, 7] := by kernel_rfl
@[go_sem] theorem live_88_9 : C.live 88 9 = some [7, 9, 10] := by kernel_rfl
@[go_sem] theorem live_88_10 : C.live 88 10 = some [] := by kernel_rfl
@[go_sem] theorem live_88_11 : C.live 88 11 = some [10] := by kernel_rfl
@[go_sem] theorem live_88_12 : C.live 88 12 = some [1, 7, 2] := by kernel_rfl
@[go_sem] theorem live_88_13 : C.live 88 13 = some [11, 7, 2, 8] := by kernel_rfl
@[go_sem] theorem live_88_14 : C.live 88 14 = some [8] := by kernel_rfl
@[go_sem] theorem live_88_15 : C.live 88 15 = some [2, 7, 11] := by kernel_rfl
@[go_sem] theorem live_88_16 : C.live 88 16 = some [12] := by kernel_rfl
@[go_sem] theorem live_88_17 : C.live 88 17 = some [] := by kernel_rfl
@[go_sem] theorem live_88_18 : C.live 88 18 = some [12] := by kernel_rfl
@[go_sem] theorem esc_89 : C.esc 89 = [] := by kernel_rfl
@[go_sem] theorem live_89_0 : C.live 89 0 = some [0] := by kernel_rfl
@[go_sem] theorem live_89_1 : C.live 89 1 = some [1] := by kernel_rfl
@[go_sem] theorem esc_90 : C.esc 90 = [] := by kernel_rfl
@[go_sem] theorem live_90_0 : C.live 90 0 = some [1, 0] := by kernel_rfl
@[go_sem] theorem live_90_1 : C.live 90 1 = some [0, 3] := by kernel_rfl
@[go_sem] theorem live_90_2 : C.live 90 2 = some [3, 0] := by kernel_rfl
@[go_sem] theorem live_90_3 : C.live 90 3 = some [3, 0] := by kernel_rfl
@[go_sem] theorem live_90_4 : C.live 90 4 = some [21, 0, 19, 20] := by kernel_rfl
@[go_sem] theorem live_90_5 : C.live 90 5 = some [21, 0, 19, 20] := by kernel_rfl
@[go_sem] theorem live_90_6 : C.live 90 6 = some [5, 21, 0, 19, 20] := by kernel_rfl
@[go_sem] theorem live_90_7 : C.live 90 7 = some [21, 0, 19, 20] := by kernel_rfl
@[go_sem] theorem esc_91 : C.esc 91 = [] := by kernel_rfl
@[go_sem] theorem live_91_0 : C.live 91 0 = some [0, 1] := by kernel_rfl
@[go_sem] theorem live_91_1 : C.live 91 1 = some [0, 1] := by kernel_rfl
@[go_sem] theorem live_91_2 : C.live 91 2 = some [7, 1, 0, 8] := by kernel_rfl
@[go_sem] theorem live_91_3 : C.live 91 3 = some [7, 1, 0, 8] := by kernel_rfl
@[go_sem] theorem live_91_4 : C.live 91 4 = some [7, 1, 0, 8, 5] := by kernel_rfl
@[go_sem] theorem live_91_5 : C.live 91 5 = some [5] := by kernel_rfl
@[go_sem] theorem live_91_6 : C.live 91 6 = some [8, 0, 1, 7] := by kernel_rfl
@[go_sem] theorem live_91_7 : C.live 91 7 = some [] := by kernel_rfl
@[go_sem] theorem esc_92 : C.esc 92 = [] := by kernel_rfl
@[go_sem] theorem live_92_0 : C.live 92 0 = some [0, 1] := by kernel_rfl
@[go_sem] theorem live_92_1 : C.live 92 1 = some [1, 2] := by kernel_rfl
@[go_sem] theorem live_92_2 : C.live 92 2 = some [1, 2, 5] := by kernel_rfl
@[go_sem] theorem live_92_3 : C.live 92 3 = some [5] := by kernel_rfl
@[go_sem] theorem live_92_4 : C.live 92 4 = some [2, 1] := by kernel_rfl
@[go_sem] theorem live_92_5 : C.live 92 5 = some [17, 16, 1, 18] := by kernel_rfl
@[go_sem] theorem live_92_6 : C.live 92 6 = some [17, 16, 1, 18] := by kernel_rfl
@[go_sem] theorem live_92_7 : C.live 92 7 = some [7, 17, 16, 1, 18] := by kernel_rfl
@[go_sem] theorem live_92_8 : C.live 92 8 = some [17, 16, 1, 18, 8] := by kernel_rfl
@[go_sem] theorem live_92_9 : C.live 92 9 = some [8] := by kernel_rfl
@[go_sem] theorem live_92_10 : C.live 92 10 = some [18, 1, 16, 17] := by kernel_rfl
@[go_sem] theorem live_92_11 : C.live 92 11 = some [] := by kernel_rfl
@[go_sem] theorem esc_93 : C.esc 93 = [] := by kernel_rfl
@[go_sem] theorem live_93_0 : C.live 93 0 = some [0, 1] := by kernel_rfl
@[go_sem] theorem live_93_1 : C.live 93 1 = some [1, 2] := by kernel_rfl
@[go_sem] theorem live_93_2 : C.live 93 2 = some [1, 2] := by kernel_rfl
@[go_sem] theorem live_93_3 : C.live 93 3 = some [7, 6] := by kernel_rfl
@[go_sem] theorem live_93_5 : C.live 93 5 = some [6] := by kernel_rfl
@[go_sem] theorem live_93_6 : C.live 93 6 = some [] := by kernel_rfl
@[go_sem] theorem live_93_4 : C.live 93 4 = some [] := by kernel_rfl
@[go_sem] theorem live_93_7 : C.live 93 7 = some [6] := by kernel_rfl
@[go_sem] theorem live_93_8 : C.live 93 8 = some [1, 2] := by kernel_rfl
@[go_sem] theorem live_93_9 : C.live 93 9 = some [8, 1, 2] := by kernel_rfl
@[go_sem] theorem live_93_10 : C.live 93 10 = some [40, 2, 39, 1, 41, 8] := by kernel_rfl
@[go_sem] theorem live_93_11 : C.live 93 11 = some [40, 2, 39, 1, 41, 8] := by kernel_rfl
@[go_sem] theorem live_93_12 : C.live 93 12 = some [10, 40, 2, 39, 1, 41, 8] := by kernel_rfl
@[go_sem] theorem live_93_13 : C.live 93 13 = some [40, 2, 39, 1, 41, 11, 8, 12] := by kernel_rfl
@[go_sem] theorem live_93_14 : C.live 93 14 = some [12] := by kernel_rfl
@[go_sem] theorem live_93_15 : C.live 93 15 = some [8, 11, 41, 1, 39, 2, 40] := by kernel_rfl
@[go_sem] theorem live_93_16 : C.live 93 16 = some [41, 8, 1, 39, 2, 40] := by kernel_rfl
@[go_sem] theorem live_93_17 : C.live 93 17 = some [2, 8] := by kernel_rfl
@[go_sem] theorem live_93_18 : C.live 93 18 = some [2, 8] := by kernel_rfl
@[go_sem] theorem live_93_19 : C.live 93 19 = some [] := by kernel_rfl
@[go_sem] theorem live_93_20 : C.live 93 20 = some [] := by kernel_rfl
@[go_sem] theorem live_93_21 : C.live 93 21 = some [2, 8] := by kernel_rfl
@[go_sem] theorem live_93_22 : C.live 93 22 = some [8, 13, 14] := by kernel_rfl
@[go_sem] theorem live_93_23 : C.live 93 23 = some [90, 14, 89, 13, 91] := by kernel_rfl
@[go_sem] theorem live_93_24 : C.live 93 24 = some [90, 14, 89, 13, 91] := by kernel_rfl
@[go_sem] theorem live_93_25 : C.live 93 25 = some [16, 90, 14, 89, 13, 91] := by kernel_rfl
@[go_sem] theorem live_93_26 : C.live 93 26 = some [] := by kernel_rfl
@[go_sem] theorem live_93_27 : C.live 93 27 = some [91, 13, 89, 14, 90] := by kernel_rfl
@[go_sem] theorem live_93_28 : C.live 93 28 = some [14] := by kernel_rfl
@[go_sem] theorem esc_94 : C.esc 94 = [] := by kernel_rfl
@[go_sem] theorem live_94_0 : C.live 94 0 = some [0] := by kernel_rfl
@[go_sem] theorem live_94_1 : C.live 94 1 = some [0] := by kernel_rfl
@[go_sem] theorem esc_95 : C.esc 95 = [] := by kernel_rfl
@[go_sem] theorem live_95_0 : C.live 95 0 = some [0, 1] := by kernel_rfl
@[go_sem] theorem live_95_1 : C.live 95 1 = some [2, 1] := by kernel_rfl
@[go_sem] theorem live_95_2 : C.live 95 2 = some [] := by kernel_rfl
@[go_sem] theorem live_95_3 : C.live 95 3 = some [1, 2] := by kernel_rfl
@[go_sem] theorem live_95_4 : C.live 95 4 = some [] := by kernel_rfl
@[go_sem] theorem live_95_5 : C.live 95 5 = some [2, 1] := by kernel_rfl
@[go_sem] theorem live_95_6 : C.live 95 6 = some [] := by kernel_rfl
@[go_sem] theorem live_95_7 : C.live 95 7 = some [1] := by kernel_rfl
@[go_sem] theorem live_95_8 : C.live 95 8 = some [] := by kernel_rfl
@[go_sem] theorem live_95_9 : C.live 95 9 = some [] := by kernel_rfl
@[go_sem] theorem esc_96 : C.esc 96 = [] := by kernel_rfl
@[go_sem] theorem live_96_0 : C.live 96 0 = some [0] := by kernel_rfl
@[go_sem] theorem live_96_1 : C.live 96 1 = some [0] := by kernel_rfl
@[go_sem] theorem live_96_2 : C.live 96 2 = some [0, 3] := by kernel_rfl
@[go_sem] theorem live_96_3 : C.live 96 3 = some [0, 3] := by kernel_rfl
@[go_sem] theorem live_96_4 : C.live 96 4 = some [0, 3] := by kernel_rfl
@[go_sem] theorem live_96_5 : C.live 96 5 = some [0, 3] := by kernel_rfl
@[go_sem] theorem live_96_6 : C.live 96 6 = some [0, 3] := by kernel_rfl
@[go_sem] theorem live_96_7 : C.live 96 7 = some [0, 3] := by kernel_rfl
@[go_sem] theorem live_96_9 : C.live 96 9 = some [3, 0] := by kernel_rfl
@[go_sem] theorem live_96_10 : C.live 96 10 = some [3, 0] := by kernel_rfl
@[go_sem] theorem live_96_11 : C.live 96 11 = some [3, 0] := by kernel_rfl
@[go_sem] theorem live_96_12 : C.live 96 12 = some [3, 0] := by kernel_rfl
@[go_sem] theorem live_96_13 : C.live 96 13 = some [3, 0] := by kernel_rfl
@[go_sem] theorem live_96_14 : C.live 96 14 = some [3, 0] := by kernel_rfl
@[go_sem] theorem live_96_15 : C.live 96 15 = some [3, 0] := by kernel_rfl
@[go_sem] theorem live_96_16 : C.live 96 16 = some [] := by kernel_rfl
@[go_sem] theorem live_96_8 : C.live 96 8 = some [] := by kernel_rfl
@[go_sem] theorem live_96_17 : C.live 96 17 = some [0] := by kernel_rfl
@[go_sem] theorem live_96_18 : C.live 96 18 = some [] := by kernel_rfl
@[go_sem] theorem live_96_19 : C.live 96 19 = some [] := by kernel_rfl
@[go_sem] theorem esc_97 : C.esc 97 = [] := by kernel_rfl
@[go_sem] theorem live_97_0 : C.live 97 0 = some [0, 1] := by kernel_rfl
@[go_sem] theorem live_97_1 : C.live 97 1 = some [1, 2] := by kernel_rfl
@[go_sem] theorem live_97_2 : C.live 97 2 = some [1, 2] := by kernel_rfl
@[go_sem] theorem live_97_3 : C.live 97 3 = some [2] := by kernel_rfl
@[go_sem] theorem live_97_4 : C.live 97 4 = some [] := by kernel_rfl
@[go_sem] theorem live_97_5 : C.live 97 5 = some [] := by kernel_rfl
@[go_sem] theorem esc_98 : C.esc 98 = [] := by kernel_rfl
@[go_sem] theorem live_98_0 : C.live 98 0 = some [0] := by kernel_rfl
@[go_sem] theorem live_98_1 : C.live 98 1 = some [0] := by kernel_rfl
@[go_sem] theorem live_98_2 : C.live 98 2 = some [4] := by kernel_rfl
@[go_sem] theorem live_98_4 : C.live 98 4 = some [4] := by kernel_rfl
@[go_sem] theorem live_98_6 : C.live 98 6 = some [4] := by kernel_rfl
@[go_sem] theorem live_98_8 : C.live 98 8 = some [4] := by kernel_rfl
@[go_sem] theorem live_98_9 : C.live 98 9 = some [4] := by kernel_rfl
@[go_sem] theorem live_98_11 : C.live 98 11 = some [4] := by kernel_rfl
@[go_sem] theorem live_98_12 : C.live 98 12 = some [] := by kernel_rfl
@[go_sem] theorem live_98_10 : C.live 98 10 = some [] := by kernel_rfl
@[go_sem] theorem live_98_7 : C.live 98 7 = some [] := by kernel_rfl
@[go_sem] theorem live_98_5 : C.live 98 5 = some [] := by kernel_rfl
@[go_sem] theorem live_98_3 : C.live 98 3 = some [] := by kernel_rfl
@[go_sem] theorem live_98_13 : C.live 98 13 = some [] := by kernel_rfl
@[go_sem] theorem esc_99 : C.esc 99 = [] := by kernel_rfl
@[go_sem] theorem live_99_0 : C.live 99 0 = some [2, 1, 0] := by kernel_rfl
@[go_sem] theorem live_99_1 : C.live 99 1 = some [2, 1, 0] := by kernel_rfl
@[go_sem] theorem live_99_2 : C.live 99 2 = some [] := by kernel_rfl
@[go_sem] theorem live_99_3 : C.live 99 3 = some [0, 1] := by kernel_rfl
@[go_sem] theorem live_99_4 : C.live 99 4 = some [] := by kernel_rfl
@[go_sem] theorem live_99_5 : C.live 99 5 = some [1, 0] := by kernel_rfl
@[go_sem] theorem live_99_6 : C.live 99 6 = some [] := by kernel_rfl
@[go_sem] theorem live_99_7 : C.live 99 7 = some [0, 1] := by kernel_rfl
@[go_sem] theorem live_99_8 : C.live 99 8 = some [] := by kernel_rfl
@[go_sem] theorem live_99_9 : C.live 99 9 = some [] := by kernel_rfl
@[go_sem] theorem esc_100 : C.esc 100 = [] := by kernel_rfl
@[go_sem] theorem live_100_0 : C.live 100 0 = some [0, 1] := by kernel_rfl
@[go_sem] theorem live_100_1 : C.live 100 1 = some [2, 1] := by kernel_rfl
@[go_sem] theorem live_100_2 : C.live 100 2 = some [2, 5, 1] := by kernel_rfl
@[go_sem] theorem live_100_4 : C.live 100 4 = some [1, 5, 2] := by kernel_rfl
@[go_sem] theorem live_100_6 : C.live 100 6 = some [2, 5, 1] := by kernel_rfl
@[go_sem] theorem live_100_8 : C.live 100 8 = some [1] := by kernel_rfl
@[go_sem] theorem live_100_9 : C.live 100 9 = some [] := by kernel_rfl
@[go_sem] theorem live_100_7 : C.live 100 7 = some [] := by kernel_rfl
@[go_sem] theorem live_100_5 : C.live 100 5 = some [] := by kernel_rfl
@[go_sem] theorem live_100_3 : C.live 100 3 = some [] := by kernel_rfl
@[go_sem] theorem live_100_10 : C.live 100 10 = some [] := by kernel_rfl
@[go_sem] theorem esc_101 : C.esc 101 = [] := by kernel_rfl
@[go_sem] theorem live_101_0 : C.live 101 0 = some [1, 0] := by kernel_rfl
@[go_sem] theorem live_101_1 : C.live 101 1 = some [1, 0] := by kernel_rfl
@[go_sem] theorem esc_102 : C.esc 102 = [] := by kernel_rfl
@[go_sem] theorem live_102_0 : C.live 102 0 = some [0] := by kernel_rfl
@[go_sem] theorem live_102_1 : C.live 102 1 = some [0] := by kernel_rfl
@[go_sem] theorem live_102_2 : C.live 102 2 = some [4] := by kernel_rfl
@[go_sem] theorem live_102_3 : C.live 102 3 = some [4] := by kernel_rfl
@[go_sem] theorem live_102_4 : C.live 102 4 = some [4] := by kernel_rfl
@[go_sem] theorem live_102_5 : C.live 102 5 = some [4] := by kernel_rfl
@[go_sem] theorem live_102_6 : C.live 102 6 = some [4] := by kernel_rfl
@[go_sem] theorem live_102_7 : C.live 102 7 = some [4] := by kernel_rfl
@[go_sem] theorem live_102_8 : C.live 102 8 = some [4] := by kernel_rfl
@[go_sem] theorem live_102_9 : C.live 102 9 = some [4] := by kernel_rfl
@[go_sem] theorem live_102_10 : C.live 102 10 = some [4] := by kernel_rfl
@[go_sem] theorem live_102_11 : C.live 102 11 = some [4] := by kernel_rfl
@[go_sem] theorem live_102_13 : C.live 102 13 = some [4] := by kernel_rfl
@[go_sem] theorem live_102_14 : C.live 102 14 = some [4] := by kernel_rfl
@[go_sem] theorem live_102_15 : C.live 102 15 = some [4] := by kernel_rfl
@[go_sem] theorem live_102_17 : C.live 102 17 = some [4] := by kernel_rfl
@[go_sem] theorem live_102_18 : C.live 102 18 = some [4] := by kernel_rfl
@[go_sem] theorem live_102_19 : C.live 102 19 = some [4] := by kernel_rfl
@[go_sem] theorem live_102_21 : C.live 102 21 = some [4] := by kernel_rfl
@[go_sem] theorem live_102_23 : C.live 102 23 = some [4] := by kernel_rfl
@[go_sem] theorem live_102_24 : C.live 102 24 = some [4] := by kernel_rfl
@[go_sem] theorem live_102_25 : C.live 102 25 = some [] := by kernel_rfl
@[go_sem] theorem live_102_22 : C.live 102 22 = some [] := by kernel_rfl
@[go_sem] theorem live_102_20 : C.live 102 20 = some [] := by kernel_rfl
@[go_sem] theorem live_102_16 : C.live 102 16 = some [] := by kernel_rfl
@[go_sem] theorem live_102_12 : C.live 102 12 = some [] := by kernel_rfl
@[go_sem] theorem live_102_26 : C.live 102 26 = some [] := by kernel_rfl
@[go_sem] theorem esc_103 : C.esc 103 = [] := by kernel_rfl
@[go_sem] theorem live_103_0 : C.live 103 0 = some [0] := by kernel_rfl
@[go_sem] theorem live_103_1 : C.live 103 1 = some [0] := by kernel_rfl
@[go_sem] theorem live_103_2 : C.live 103 2 = some [] := by kernel_rfl
@[go_sem] theorem live_103_3 : C.live 103 3 = some [0] := by kernel_rfl
@[go_sem] theorem live_103_4 : C.live 103 4 = some [0, 3] := by kernel_rfl
@[go_sem] theorem live_103_6 : C.live 103 6 = some [0, 3] := by kernel_rfl
@[go_sem] theorem live_103_7 : C.live 103 7 = some [] := by kernel_rfl
@[go_sem] theorem live_103_5 : C.live 103 5 = some [3, 0] := by kernel_rfl
@[go_sem] theorem live_103_8 : C.live 103 8 = some [] := by kernel_rfl
@[go_sem] theorem esc_104 : C.esc 104 = [] := by kernel_rfl
@[go_sem] theorem live_104_0 : C.live 104 0 = some [0] := by kernel_rfl
@[go_sem] theorem live_104_1 : C.live 104 1 = some [0] := by kernel_rfl
@[go_sem] theorem live_104_3 : C.live 104 3 = some [0] := by kernel_rfl
@[go_sem] theorem live_104_5 : C.live 104 5 = some [0] := by kernel_rfl
@[go_sem] theorem live_104_6 : C.live 104 6 = some [] := by kernel_rfl
@[go_sem] theorem live_104_4 : C.live 104 4 = some [] := by kernel_rfl
@[go_sem] theorem live_104_2 : C.live 104 2 = some [] := by kernel_rfl
@[go_sem] theorem live_104_7 : C.live 104 7 = some [] := by kernel_rfl
@[go_sem] theorem esc_105 : C.esc 105 = [] := by kernel_rfl
@[go_sem] theorem live_105_0 : C.live 105 0 = some [0] := by kernel_rfl
@[go_sem] theorem live_105_1 : C.live 105 1 = some [0] := by kernel_rfl
@[go_sem] theorem live_105_2 : C.live 105 2 = some [0, 3] := by kernel_rfl
@[go_sem] theorem live_105_4 : C.live 105 4 = some [0, 3] := by kernel_rfl
@[go_sem] theorem live_105_5 : C.live 105 5 = some [] := by kernel_rfl
@[go_sem] theorem live_105_3 : C.live 105 3 = some [3, 0] := by kernel_rfl
@[go_sem] theorem live_105_6 : C.live 105 6 = some [0] := by kernel_rfl
@[go_sem] theorem kind_25 : kindT Tryz.prog 25 = some (3, true) := by kernel_rfl
@[go_sem] theorem bool_4 : boolT Tryz.prog 4 = true := by kernel_rfl
@[go_sem] theorem field_25_1 : fieldT Tryz.prog 25 1 = some (1, 1, false) := by kernel_rfl
@[go_sem] theorem kind_22 : kindT Tryz.prog 22 = some (1, false) := by kernel_rfl
@[go_sem] theorem len_22 : lenT Tryz.prog 22 = 2 := by kernel_rfl
@[go_sem] theorem bool_3 : boolT Tryz.prog 3 = false := by kernel_rfl
@[go_sem] theorem field_25_0 : fieldT Tryz.prog 25 0 = some (0, 1, false) := by kernel_rfl
@[go_sem] theorem kind_9 : kindT Tryz.prog 9 = some (1, false) := by kernel_rfl
@[go_sem] theorem len_9 : lenT Tryz.prog 9 = 1 := by kernel_rfl
@[go_sem] theorem arr_22 : arrT Tryz.prog 22 = none := by kernel_rfl
@[go_sem] theorem elem_22 : elemT Tryz.prog 22 = some (30, 2) := by kernel_rfl
@[go_sem] theorem field_30_0 : fieldT Tryz.prog 30 0 = some (0, 1, false) := by kernel_rfl
@[go_sem] theorem field_25_2 : fieldT Tryz.prog 25 2 = some (2, 1, false) := by kernel_rfl
@[go_sem] theorem kind_23 : kindT Tryz.prog 23 = some (1, false) := by kernel_rfl
@[go_sem] theorem zero_34 : zeroT Tryz.prog 34 = some (.agg [.d (.int .i64 0), .d (.int .i64 0), .d (.str []), .nilS]) := by kernel_rfl
@[go_sem] theorem fields_34 : fieldsT Tryz.prog 34 = some [(0, 1), (1, 1), (2, 1), (3, 1)] := by kernel_rfl
@[go_sem] theorem kind_34 : kindT Tryz.prog 34 = some (4, true) := by kernel_rfl
@[go_sem] theorem elem_32 : elemT Tryz.prog 32 = some (34, 4) := by kernel_rfl
@[go_sem] theorem zero_38 : zeroT Tryz.prog 38 = some (.agg [.d (.int .i64 0), .d (.str []), .d (.int .i64 0), .d (.int .i64 0), .d (.int .i64 0), .d (.str []), .nilS, .d (.int .i64 0), .d (.int .i64 0), .d (.str []), .nilS, .nilS, .nilS]) := by kernel_rfl
@[go_sem] theorem fields_38 : fieldsT Tryz.prog 38 = some [(0, 1), (1, 1), (2, 1), (3, 4), (7, 4), (11, 1), (12, 1)] := by kernel_rfl
@[go_sem] theorem elem_23 : elemT Tryz.prog 23 = some (38, 13) := by kernel_rfl
@[go_sem] theorem zero_25 : zeroT Tryz.prog 25 = some (.agg [.d (.str []), .nilS, .nilS]) := by kernel_rfl
@[go_sem] theorem fields_25 : fieldsT Tryz.prog 25 = some [(0, 1), (1, 1), (2, 1)] := by kernel_rfl
@[go_sem] theorem zero_30 : zeroT Tryz.prog 30 = some (.agg [.d (.str []), .d (.int .i64 0)]) := by kernel_rfl
@[go_sem] theorem fields_30 : fieldsT Tryz.prog 30 = some [(0, 1), (1, 1)] := by kernel_rfl
@[go_sem] theorem elem_40 : elemT Tryz.prog 40 = some (9, 1) := by kernel_rfl
@[go_sem] theorem zero_9 : zeroT Tryz.prog 9 = some (.d (.str [])) := by kernel_rfl
@[go_sem] theorem bool_42 : boolT Tryz.prog 42 = false := by kernel_rfl
@[go_sem] theorem len_47 : lenT Tryz.prog 47 = 2 := by kernel_rfl
@[go_sem] theorem arr_47 : arrT Tryz.prog 47 = none := by kernel_rfl
@[go_sem] theorem elem_47 : elemT Tryz.prog 47 = some (50, 20) := by kernel_rfl
@[go_sem] theorem kind_50 : kindT Tryz.prog 50 = some (20, true) := by kernel_rfl
@[go_sem] theorem zero_50 : zeroT Tryz.prog 50 = some (.agg [.d (.bool false), .d (.int .i64 0), .d (.str []), .d (.int .i64 0), .d (.int .i64 0), .d (.int .i64 0), .d (.str []), .nilS, .d (.int .i64 0), .d (.int .i64 0), .d (.str []), .nilS, .nilS, .nilS, .d (.int .i64 0), .d (.int .i64 0), .d (.int .i64 0), .d (.str []), .nilS, .d (.bool false)]) := by kernel_rfl
@[go_sem] theorem field_50_0 : fieldT Tryz.prog 50 0 = some (0, 1, false) := by kernel_rfl
@[go_sem] theorem kind_4 : kindT Tryz.prog 4 = some (1, false) := by kernel_rfl
@[go_sem] theorem field_50_1 : fieldT Tryz.prog 50 1 = some (1, 13, true) := by kernel_rfl
@[go_sem] theorem field_38_0 : fieldT Tryz.prog 38 0 = some (0, 1, false) := by kernel_rfl
@[go_sem] theorem kind_3 : kindT Tryz.prog 3 = some (1, false) := by kernel_rfl
@[go_sem] theorem field_38_3 : fieldT Tryz.prog 38 3 = some (3, 4, true) := by kernel_rfl
@[go_sem] theorem field_50_3 : fieldT Tryz.prog 50 3 = some (15, 4, true) := by kernel_rfl
@[go_sem] theorem field_34_0 : fieldT Tryz.prog 34 0 = some (0, 1, false) := by kernel_rfl
@[go_sem] theorem field_34_3 : fieldT Tryz.prog 34 3 = some (3, 1, false) := by kernel_rfl
@[go_sem] theorem kind_32 : kindT Tryz.prog 32 = some (1, false) := by kernel_rfl
@[go_sem] theorem arr_32 : arrT Tryz.prog 32 = none := by kernel_rfl
@[go_sem] theorem kind_38 : kindT Tryz.prog 38 = some (13, true) := by kernel_rfl
@[go_sem] theorem field_38_4 : fieldT Tryz.prog 38 4 = some (7, 4, true) := by kernel_rfl
@[go_sem] theorem len_23 : lenT Tryz.prog 23 = 2 := by kernel_rfl
@[go_sem] theorem arr_23 : arrT Tryz.prog 23 = none := by kernel_rfl
@[go_sem] theorem field_38_1 : fieldT Tryz.prog 38 1 = some (1, 1, false) := by kernel_rfl
@[go_sem] theorem field_38_5 : fieldT Tryz.prog 38 5 = some (11, 1, false) := by kernel_rfl
@[go_sem] theorem field_38_6 : fieldT Tryz.prog 38 6 = some (12, 1, false) := by kernel_rfl
@[go_sem] theorem len_40 : lenT Tryz.prog 40 = 2 := by kernel_rfl
@[go_sem] theorem arr_40 : arrT Tryz.prog 40 = none := by kernel_rfl
@[go_sem] theorem bool_9 : boolT Tryz.prog 9 = false := by kernel_rfl
@[go_sem] theorem field_56_1 : fieldT Tryz.prog 56 1 = some (3, 1, false) := by kernel_rfl
@[go_sem] theorem kind_54 : kindT Tryz.prog 54 = some (1, false) := by kernel_rfl
@[go_sem] theorem map_54 : mapT Tryz.prog 54 = some (2, 4) := by kernel_rfl
@[go_sem] theorem zero_4 : zeroT Tryz.prog 4 = some (.d (.bool false)) := by kernel_rfl
@[go_sem] theorem room_9_1 : aroomT Tryz.prog 9 1 = true := by kernel_rfl
@[go_sem] theorem zero_56 : zeroT Tryz.prog 56 = some (.agg [.d (.str []), .nilS, .nilS, .nilM]) := by kernel_rfl
@[go_sem] theorem fields_56 : fieldsT Tryz.prog 56 = some [(0, 3), (3, 1)] := by kernel_rfl
@[go_sem] theorem len_54 : lenT Tryz.prog 54 = 3 := by kernel_rfl
@[go_sem] theorem zero_65 : zeroT Tryz.prog 65 = some (.agg [.nilS, .nilS]) := by kernel_rfl
@[go_sem] theorem field_30_1 : fieldT Tryz.prog 30 1 = some (1, 1, false) := by kernel_rfl
@[go_sem] theorem kind_65 : kindT Tryz.prog 65 = some (2, true) := by kernel_rfl
@[go_sem] theorem field_34_2 : fieldT Tryz.prog 34 2 = some (2, 1, false) := by kernel_rfl
@[go_sem] theorem len_32 : lenT Tryz.prog 32 = 2 := by kernel_rfl
@[go_sem] theorem zero_40 : zeroT Tryz.prog 40 = some (.nilS) := by kernel_rfl
@[go_sem] theorem kind_30 : kindT Tryz.prog 30 = some (2, true) := by kernel_rfl
@[go_sem] theorem kind_40 : kindT Tryz.prog 40 = some (1, false) := by kernel_rfl
@[go_sem] theorem map_57 : mapT Tryz.prog 57 = some (2, 3) := by kernel_rfl
@[go_sem] theorem zero_3 : zeroT Tryz.prog 3 = some (.d (.int .i64 0)) := by kernel_rfl
@[go_sem] theorem zero_76 : zeroT Tryz.prog 76 = some (.agg [.nilM, .nilM, .nilM]) := by kernel_rfl
@[go_sem] theorem fields_76 : fieldsT Tryz.prog 76 = some [(0, 1), (1, 1), (2, 1)] := by kernel_rfl
@[go_sem] theorem field_76_2 : fieldT Tryz.prog 76 2 = some (2, 1, false) := by kernel_rfl
@[go_sem] theorem kind_57 : kindT Tryz.prog 57 = some (1, false) := by kernel_rfl
@[go_sem] theorem kind_44 : kindT Tryz.prog 44 = some (1, false) := by kernel_rfl
@[go_sem] theorem field_50_2 : fieldT Tryz.prog 50 2 = some (14, 1, false) := by kernel_rfl
@[go_sem] theorem field_65_0 : fieldT Tryz.prog 65 0 = some (0, 1, false) := by kernel_rfl
@[go_sem] theorem room_30_2 : aroomT Tryz.prog 30 2 = true := by kernel_rfl
@[go_sem] theorem field_65_1 : fieldT Tryz.prog 65 1 = some (1, 1, false) := by kernel_rfl
@[go_sem] theorem fields_50 : fieldsT Tryz.prog 50 = some [(0, 1), (1, 13), (14, 1), (15, 4), (19, 1)] := by kernel_rfl
@[go_sem] theorem room_50_20 : aroomT Tryz.prog 50 20 = true := by kernel_rfl
@[go_sem] theorem zero_90 : zeroT Tryz.prog 90 = some (.agg [.d (.int .i64 0), .nilF, .nilF]) := by kernel_rfl
@[go_sem] theorem fields_90 : fieldsT Tryz.prog 90 = some [(0, 1), (1, 1), (2, 1)] := by kernel_rfl
@[go_sem] theorem field_90_0 : fieldT Tryz.prog 90 0 = some (0, 1, false) := by kernel_rfl
@[go_sem] theorem zero_42 : zeroT Tryz.prog 42 = some (.d (.int .i64 0)) := by kernel_rfl
@[go_sem] theorem kind_42 : kindT Tryz.prog 42 = some (1, false) := by kernel_rfl
@[go_sem] theorem field_76_0 : fieldT Tryz.prog 76 0 = some (0, 1, false) := by kernel_rfl
@[go_sem] theorem str_9 : strT Tryz.prog 9 = true := by kernel_rfl
@[go_sem] theorem arr_9 : arrT Tryz.prog 9 = none := by kernel_rfl
@[go_sem] theorem field_38_2 : fieldT Tryz.prog 38 2 = some (2, 1, false) := by kernel_rfl
@[go_sem] theorem field_34_1 : fieldT Tryz.prog 34 1 = some (1, 1, false) := by kernel_rfl
@[go_sem] theorem kind_2 : kindT Tryz.prog 2 = some (1, false) := by kernel_rfl
@[go_sem] theorem bool_2 : boolT Tryz.prog 2 = false := by kernel_rfl
@[go_sem] theorem field_90_1 : fieldT Tryz.prog 90 1 = some (1, 1, false) := by kernel_rfl
@[go_sem] theorem kind_72 : kindT Tryz.prog 72 = some (1, false) := by kernel_rfl
@[go_sem] theorem conv_5_21 : convT Tryz.prog 5 21 = some .i32 := by kernel_rfl
@[go_sem] theorem str_5 : strT Tryz.prog 5 = false := by kernel_rfl
@[go_sem] theorem str_21 : strT Tryz.prog 21 = false := by kernel_rfl
@[go_sem] theorem str_22 : strT Tryz.prog 22 = false := by kernel_rfl
@[go_sem] theorem zero_107 : zeroT Tryz.prog 107 = some (.agg [.d (.bool false), .d (.bool false), .d (.bool false), .d (.bool false), .d (.bool false), .d (.bool false)]) := by kernel_rfl
@[go_sem] theorem kind_107 : kindT Tryz.prog 107 = some (6, true) := by kernel_rfl
@[go_sem] theorem field_107_0 : fieldT Tryz.prog 107 0 = some (0, 1, false) := by kernel_rfl
@[go_sem] theorem field_107_1 : fieldT Tryz.prog 107 1 = some (1, 1, false) := by kernel_rfl
@[go_sem] theorem field_107_2 : fieldT Tryz.prog 107 2 = some (2, 1, false) := by kernel_rfl
@[go_sem] theorem field_76_1 : fieldT Tryz.prog 76 1 = some (1, 1, false) := by kernel_rfl
@[go_sem] theorem bool_5 : boolT Tryz.prog 5 = false := by kernel_rfl
@[go_sem] theorem field_90_2 : fieldT Tryz.prog 90 2 = some (2, 1, false) := by kernel_rfl
@[go_sem] theorem kind_73 : kindT Tryz.prog 73 = some (1, false) := by kernel_rfl
@[go_sem] theorem bool_21 : boolT Tryz.prog 21 = false := by kernel_rfl
@[go_sem] theorem fields_107 : fieldsT Tryz.prog 107 = some [(0, 1), (1, 1), (2, 1), (3, 1), (4, 1), (5, 1)] := by kernel_rfl
@[go_sem] theorem field_107_3 : fieldT Tryz.prog 107 3 = some (3, 1, false) := by kernel_rfl
@[go_sem] theorem field_107_4 : fieldT Tryz.prog 107 4 = some (4, 1, false) := by kernel_rfl
@[go_sem] theorem field_107_5 : fieldT Tryz.prog 107 5 = some (5, 1, false) := by kernel_rfl
@[go_sem] theorem elem_120 : elemT Tryz.prog 120 = some (3, 1) := by kernel_rfl
@[go_sem] theorem room_3_1 : aroomT Tryz.prog 3 1 = true := by kernel_rfl
@[go_sem] theorem arr_120 : arrT Tryz.prog 120 = none := by kernel_rfl
@[go_sem] theorem len_120 : lenT Tryz.prog 120 = 2 := by kernel_rfl
attribute [go_sem] List.getElem?_toArray List.getElem?_cons_zero List.getElem?_cons_succ List.length_cons List.length_nil List.take_succ_cons List.take_zero List.drop_succ_cons List.drop_zero List.drop_nil List.take_nil List.nil_append List.cons_append List.append_nil List.contains_cons List.contains_nil Bool.or_false Bool.false_or Bool.or_true Bool.true_or Bool.and_true Bool.true_and Bool.and_false Bool.false_and Bool.not_true Bool.not_false Bool.not_not Option.isSome_some Option.isSome_none List.map_cons List.map_nil ite_not not_true_eq_false not_false_eq_true Nat.zero_add Nat.add_zero
end Go.Proofs.YtdcmimpjmngdlaaGreat
