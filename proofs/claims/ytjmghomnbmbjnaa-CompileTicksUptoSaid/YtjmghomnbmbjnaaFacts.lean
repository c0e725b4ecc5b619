/- Facts of this program that the walks look up: which slots live on, which escape, how wide the types are. -/
import Derived.Test.YtjmghomnbmbjnaaProg
import Derived.KernelRfl
import Derived.Test.YtjmghomnbmbjnaaGenC
import Derived.Test.YtjmghomnbmbjnaaGenB
set_option linter.unusedVariables false
set_option linter.unusedSimpArgs false
set_option linter.all false
set_option linter.deprecated false
set_option linter.unusedVariables false
set_option linter.all false
namespace Go.Proofs.Ytjmghomnbmbjnaa
open Go.Abs
def escT (f : Nat) : List Nat := bif Nat.blt f 63 then (bif Nat.blt f 31 then (bif Nat.blt f 15 then (bif Nat.blt f 7 then ([]) else (bif Nat.blt f 11 then (bif Nat.blt f 9 then ([]) else (bif Nat.blt f 10 then ([15]) else ([]))) else (bif Nat.blt f 13 then ([]) else (bif Nat.blt f 14 then ([18]) else ([]))))) else ([])) else (bif Nat.blt f 47 then ([]) else (bif Nat.blt f 55 then (bif Nat.blt f 51 then (bif Nat.blt f 49 then ([]) else (bif Nat.blt f 50 then ([21]) else ([3]))) else ([])) else (bif Nat.blt f 59 then ([]) else (bif Nat.blt f 61 then (bif Nat.blt f 60 then ([3]) else ([])) else (bif Nat.blt f 62 then ([]) else ([11]))))))) else (bif Nat.blt f 94 then (bif Nat.blt f 78 then (bif Nat.blt f 70 then ([]) else (bif Nat.blt f 74 then (bif Nat.blt f 72 then (bif Nat.blt f 71 then ([3]) else ([1])) else ([])) else ([]))) else (bif Nat.blt f 86 then (bif Nat.blt f 82 then (bif Nat.blt f 80 then (bif Nat.blt f 79 then ([4]) else ([])) else ([])) else ([])) else ([]))) else ([]))
def liveL (f : Nat) : List (Nat × List Nat) := bif Nat.blt f 63 then (bif Nat.blt f 31 then (bif Nat.blt f 15 then (bif Nat.blt f 7 then (bif Nat.blt f 3 then (bif Nat.blt f 1 then ([]) else (bif Nat.blt f 2 then ([]) else ([(0, [])]))) else (bif Nat.blt f 5 then (bif Nat.blt f 4 then ([(0, [0, 1]), (1, [1, 2]), (2, []), (3, [2, 1]), (4, [2, 1, 5, 6]), (5, [5, 7, 6, 8])]) else ([(0, [0]), (1, [1]), (2, []), (3, [1]), (4, [4, 3, 1]), (5, []), (6, [1, 3]), (7, [5, 1, 3]), (8, [7, 5, 6, 1, 3]), (9, [6, 7, 8, 5, 1, 3]), (11, [6, 7, 8, 5, 1, 3]), (12, [6, 7, 8, 5, 1, 3]), (13, [7, 8, 5, 6, 1, 3]), (14, [7, 8, 5, 6, 1, 3]), (10, [8, 7, 5, 6, 1, 3]), (15, [6, 1, 3, 7]), (16, []), (17, [7, 3, 1]), (18, []), (19, [1, 3]), (20, [3, 1, 9]), (22, [3, 1, 9]), (23, []), (21, [9, 1, 3]), (24, [])])) else (bif Nat.blt f 6 then ([(0, [0, 1]), (1, [1, 2]), (2, []), (3, [2, 1]), (4, [6, 5]), (5, [5]), (6, [5]), (7, [7, 5]), (8, [7, 8, 5]), (10, [7, 8, 5]), (12, [43, 7, 8, 5]), (13, [43, 7, 8, 5]), (14, [43, 7, 8, 5]), (16, [43, 5, 8, 7]), (11, []), (17, [5, 8, 7]), (18, [5, 8, 9, 7]), (19, []), (20, [7, 9, 8, 5]), (15, [7, 8, 5]), (9, [8, 7, 5]), (21, [7])]) else ([(0, [0, 1]), (1, [2, 1])])))) else (bif Nat.blt f 11 then (bif Nat.blt f 9 then (bif Nat.blt f 8 then ([(0, [0]), (1, [0]), (2, []), (3, [0]), (4, [0, 3]), (6, [0, 3]), (7, []), (5, [3, 0]), (8, [])]) else ([(0, []), (1, []), (2, [1]), (3, [1, 3, 2]), (4, [3, 2, 5]), (5, [3, 2, 5, 7, 6]), (6, [3, 2, 5, 7, 6, 8])])) else (bif Nat.blt f 10 then ([(0, [0, 1]), (1, [2, 1]), (2, [2, 1, 6]), (3, [6]), (4, [1, 2]), (5, [2, 7]), (6, []), (7, [7])]) else ([(0, [0, 1]), (1, [2, 1]), (2, [2, 1, 6]), (3, [6]), (4, [1, 2]), (5, []), (6, [2, 1])]))) else (bif Nat.blt f 13 then (bif Nat.blt f 12 then ([(0, [0, 1]), (1, [0, 1]), (2, []), (3, [1, 0]), (4, [0, 1, 5]), (6, [0, 1, 5]), (7, []), (5, [5, 1, 0]), (8, [])]) else ([(0, [0, 1]), (1, [1, 2]), (2, []), (3, [2, 1]), (4, [1, 2, 5]), (6, [1, 2, 5]), (7, []), (5, [5, 2, 1]), (8, [2, 1])])) else (bif Nat.blt f 14 then ([(0, [0]), (1, [1, 2]), (2, [1, 4, 2]), (3, [4, 2]), (4, [1, 2]), (5, [1, 5, 2]), (6, [2]), (7, [5, 1, 2]), (8, [5, 1, 2]), (9, [5, 1, 2]), (10, [1, 6, 2]), (11, [48, 6, 46, 2, 47]), (12, [48, 6, 46, 2, 47]), (13, [8, 48, 6, 46, 2, 47]), (14, [48, 6, 46, 2, 47]), (15, [6, 2])]) else ([(0, [0]), (1, [1])]))))) else (bif Nat.blt f 23 then (bif Nat.blt f 19 then (bif Nat.blt f 17 then (bif Nat.blt f 16 then ([(0, [1, 0]), (1, [1, 0]), (2, [5, 1, 0]), (3, [5, 6, 1, 0]), (5, [5, 6, 1, 0]), (6, [5, 6, 1, 0]), (4, [6, 5, 1, 0]), (7, [5])]) else ([(0, [0]), (1, [1]), (2, [1, 3]), (3, [3, 4, 1]), (5, [3, 4, 1]), (4, [4, 1, 3]), (6, [1, 3]), (7, [5, 3]), (8, [3, 6, 5]), (10, [3, 6, 5]), (11, [3, 6, 5]), (9, [6, 5, 3]), (12, [3])])) else (bif Nat.blt f 18 then ([(0, [0]), (1, [0]), (2, [0, 3]), (3, [0, 3]), (4, [0, 3]), (5, [0, 3]), (6, [0, 3]), (7, [0, 3]), (9, [3, 0]), (10, [3, 0]), (11, [3, 0]), (12, [3, 0]), (13, [3, 0]), (14, [3, 0]), (15, [3, 0]), (16, []), (8, []), (17, [0]), (18, []), (19, [])]) else ([(0, [0, 1]), (1, [1, 2]), (2, [5, 1, 2]), (3, [5, 6, 1, 2]), (5, [5, 6, 1, 2]), (4, [6, 5, 1, 2]), (6, [5])]))) else (bif Nat.blt f 21 then (bif Nat.blt f 20 then ([(0, [0]), (1, [0, 2])]) else ([(0, []), (1, [0])])) else (bif Nat.blt f 22 then ([(0, []), (1, [0]), (2, [1, 0])]) else ([(0, [0, 1]), (1, [2, 3]), (2, []), (3, [3, 2]), (4, [2, 3, 5]), (6, [2, 3, 5]), (7, []), (5, [5, 3, 2]), (8, [2, 3])])))) else (bif Nat.blt f 27 then (bif Nat.blt f 25 then (bif Nat.blt f 24 then ([(0, [0]), (1, [1]), (2, []), (3, [1]), (4, [1, 3]), (5, [1, 4, 3]), (6, [3, 16, 4, 14, 15]), (7, [3, 16, 4, 14, 15]), (8, [3, 6, 16, 4, 14, 15]), (9, [6, 3, 16, 4, 14, 15]), (10, [3, 16, 4, 14, 15]), (11, [16, 4, 3, 14, 15]), (12, [3])]) else ([(0, [0]), (1, [1])])) else (bif Nat.blt f 26 then ([(0, [1, 0]), (1, [0, 3]), (2, [10, 0, 3]), (5, [10, 0, 3]), (8, [10, 3, 0]), (9, [3, 0]), (10, [0, 5]), (11, [5]), (6, [0, 3]), (7, []), (3, [0, 3]), (4, []), (12, [0, 3]), (13, [6, 0, 3]), (14, [6, 46, 0, 44, 3, 45]), (15, [6, 46, 0, 44, 3, 45]), (16, [8, 6, 46, 0, 44, 3, 45]), (17, [46, 6, 0, 44, 3, 45]), (18, [0, 3, 6]), (19, [6])]) else ([(0, [0]), (1, [1])]))) else (bif Nat.blt f 29 then (bif Nat.blt f 28 then ([(0, [0, 1]), (1, [2, 1]), (2, []), (3, [1, 2]), (4, [2, 1, 5]), (6, [2, 1, 5]), (7, []), (5, [5, 1, 2]), (8, [])]) else ([(0, [0, 1]), (1, [1, 2]), (2, [8, 1, 2]), (4, [1, 8, 2]), (6, [8, 1, 2]), (7, [1, 2]), (5, [2]), (3, [2]), (8, [1, 2]), (9, [1, 2, 5]), (10, [5, 6, 1, 2]), (12, [5, 6, 1, 2]), (11, [6, 1, 2, 5]), (13, [5, 2])])) else (bif Nat.blt f 30 then ([(0, [1, 0]), (1, [1, 0]), (2, [1, 0, 5]), (3, [5, 6, 1, 0]), (5, [5, 6, 1, 0]), (6, [5, 6, 1, 0]), (7, [5, 6, 1, 0]), (8, [5, 6, 1, 0]), (9, [5, 6, 1, 0]), (4, [6, 1, 0, 5]), (10, [5])]) else ([(0, [0]), (1, [1]), (2, [1, 3]), (3, [3]), (4, [1]), (5, [4]), (7, [4]), (8, [4]), (9, [4]), (10, []), (6, []), (11, [])])))))) else (bif Nat.blt f 47 then (bif Nat.blt f 39 then (bif Nat.blt f 35 then (bif Nat.blt f 33 then (bif Nat.blt f 32 then ([(0, [1, 0]), (1, [8, 0, 6, 7]), (2, [8, 0, 6, 7]), (3, [5, 8, 0, 6, 7]), (4, [8, 0, 6, 7])]) else ([(0, [0, 1])])) else (bif Nat.blt f 34 then ([(0, [2, 1, 0]), (1, [2, 1, 0]), (2, [0, 7, 2, 1]), (4, [0, 7, 2, 1]), (5, [0, 7, 2, 1]), (6, [0, 7, 2, 1]), (7, [0, 7, 2, 1]), (8, [0, 7, 2, 1]), (9, [0, 7, 2, 1]), (10, [0, 7, 2, 1]), (3, [7, 2, 1, 0]), (11, [0])]) else ([(0, [0]), (1, [1]), (2, [4])]))) else (bif Nat.blt f 37 then (bif Nat.blt f 36 then ([(0, [1, 0]), (1, [1, 0]), (2, [0, 9, 7, 8]), (3, [0, 9, 7, 8]), (4, [0, 6, 9, 7, 8]), (5, [0, 6, 9, 7, 8]), (6, [0, 6, 9, 7, 8]), (7, [9, 0, 7, 8]), (8, [0])]) else ([(0, [0]), (1, [1]), (2, [4, 3, 1]), (3, []), (4, [1, 3]), (5, [1, 3, 5]), (6, [5, 18, 3, 16, 17]), (7, [5, 18, 3, 16, 17]), (8, [5, 7, 18, 3, 16, 17]), (9, [18, 3, 5, 16, 17]), (10, [5])])) else (bif Nat.blt f 38 then ([(0, [0, 1]), (1, [0, 1])]) else ([(0, [0, 1]), (1, [1, 2]), (2, [1, 2, 5]), (3, [5]), (4, [2, 1]), (5, [17, 16, 1, 18]), (6, [17, 16, 1, 18]), (7, [7, 17, 16, 1, 18]), (8, [17, 16, 1, 18, 8]), (9, [8]), (10, [18, 1, 16, 17]), (11, [])])))) else (bif Nat.blt f 43 then (bif Nat.blt f 41 then (bif Nat.blt f 40 then ([(0, [1, 0]), (1, [3, 0]), (2, [0])]) else ([(0, [1, 0]), (1, [1, 0]), (2, []), (3, [0, 1])])) else (bif Nat.blt f 42 then ([(0, [0, 1, 2])]) else ([(0, [0, 1]), (1, [2, 1]), (2, [2, 1, 5]), (3, [5]), (4, [1, 2]), (5, [2, 1, 6]), (7, [2, 1, 6]), (8, [2, 1, 6, 7]), (9, [7]), (6, [6, 1, 2]), (10, [])]))) else (bif Nat.blt f 45 then (bif Nat.blt f 44 then ([(0, [1, 0]), (1, [1, 0]), (2, [0, 1, 5]), (4, [0, 1, 5]), (5, [5]), (3, [5, 1, 0]), (6, [])]) else ([(0, [0]), (1, [1]), (2, [1, 3]), (3, [3]), (4, [1]), (5, [6]), (6, []), (7, [])])) else (bif Nat.blt f 46 then ([(0, [0]), (1, [0, 2]), (2, [0, 3, 2]), (3, [8, 3, 6, 2, 7]), (4, [8, 3, 6, 2, 7]), (5, [5, 8, 3, 6, 2, 7]), (6, [8, 3, 6, 2, 7]), (7, [3, 2])]) else ([(0, [1, 0]), (1, [0, 3]), (2, [0, 3]), (3, [0, 3]), (4, [0, 3]), (5, [0, 3]), (6, [22, 0, 3]), (7, [22, 0, 3]), (9, [22, 3, 0]), (12, [22, 3, 0]), (14, [3, 22, 0]), (16, [22, 0, 3]), (18, [22, 0, 3]), (19, [0, 3]), (17, [0, 3]), (15, [0]), (13, [0]), (10, [3, 0]), (11, [0]), (8, [0, 3])]))))) else (bif Nat.blt f 55 then (bif Nat.blt f 51 then (bif Nat.blt f 49 then (bif Nat.blt f 48 then ([(0, [0]), (1, [1])]) else ([(0, [1, 2, 0]), (1, [4, 2, 0]), (2, [0]), (3, [0, 2, 4]), (4, [4, 0]), (5, [0, 7, 4]), (7, [0, 7, 4]), (6, [7, 4, 0]), (8, [0])])) else (bif Nat.blt f 50 then ([(0, [0]), (1, [1]), (2, [1, 4]), (3, [4]), (4, [1]), (5, [5, 1]), (6, [24, 1, 23, 5, 25]), (7, [24, 1, 23, 5, 25]), (8, [24, 1, 23, 5, 25, 7]), (9, []), (10, [7, 25, 5, 23, 1, 24]), (11, [25, 5, 23, 1, 24]), (12, [1, 5]), (13, [8, 1, 5]), (14, [42, 5, 1, 41, 8, 43]), (15, [42, 5, 1, 41, 8, 43]), (16, [42, 5, 1, 41, 8, 43, 10]), (17, []), (18, [10, 43, 8, 41, 1, 5, 42]), (19, [43, 8, 41, 1, 5, 42]), (20, [1, 5]), (21, [5, 11])]) else ([(0, [0]), (1, [1]), (2, [3, 1]), (3, [9, 3, 7, 1, 8]), (4, [9, 3, 7, 1, 8]), (5, [5, 9, 3, 7, 1, 8]), (6, [9, 3, 7, 1, 8]), (7, [1, 3]), (8, [3])]))) else (bif Nat.blt f 53 then (bif Nat.blt f 52 then ([(0, [0, 1]), (1, [0, 1]), (2, [7, 1, 0, 8]), (3, [7, 1, 0, 8]), (4, [7, 1, 0, 8, 5]), (5, [5]), (6, [8, 0, 1, 7]), (7, [])]) else ([(0, [0, 1]), (1, [2, 1]), (2, [2, 5, 1]), (4, [1, 5, 2]), (6, [2, 5, 1]), (8, [1]), (9, []), (7, []), (5, []), (3, []), (10, [])])) else (bif Nat.blt f 54 then ([(0, [0, 1]), (1, [2, 1]), (2, []), (3, [1, 2]), (4, []), (5, [2, 1]), (6, []), (7, [1]), (8, []), (9, [])]) else ([(0, [0]), (1, [1, 2, 3, 4]), (2, [2, 3, 4]), (3, [1, 2, 3, 4]), (4, [1, 2, 3, 4]), (5, [15, 13, 2, 3, 4, 14]), (6, [15, 13, 2, 3, 4, 14]), (7, [7, 15, 13, 2, 3, 4, 14]), (12, [15, 13, 2, 3, 4, 14]), (13, [2, 3, 4])])))) else (bif Nat.blt f 59 then (bif Nat.blt f 57 then (bif Nat.blt f 56 then ([(0, [0, 1]), (1, [2, 3, 4]), (2, [6, 2, 3, 4]), (3, [6, 2, 3, 4]), (4, [5, 6, 2, 3, 4]), (5, [6, 2, 3, 4]), (6, [2, 4])]) else ([(0, [0]), (1, [1, 2]), (2, [1, 3, 2]), (3, [1, 3, 2]), (4, [1, 3, 2]), (5, [1, 3, 2]), (6, [13, 1, 3, 2]), (9, [13, 1, 3, 2]), (11, [1, 13, 3, 2]), (13, [13, 3, 1, 2]), (15, [13, 3, 1, 2]), (16, [3, 1, 2]), (17, [3, 1, 2]), (18, [3, 1, 2]), (14, [3, 1, 2]), (12, [3, 2]), (10, [3, 2]), (7, [1, 3, 2]), (8, [3, 2]), (19, [3, 2])])) else (bif Nat.blt f 58 then ([(0, [1, 0]), (1, [3, 0]), (2, [3, 0, 4]), (3, [3, 0, 4]), (4, [0, 4]), (5, [4, 3, 0]), (6, [4, 3, 0, 5]), (7, [3, 0, 5]), (8, [0, 5])]) else ([(0, [1, 0]), (1, [3, 0]), (2, [3, 4, 0]), (3, [3, 4, 0]), (4, [3, 4, 0]), (5, [3, 4, 0]), (6, [3, 4, 0]), (7, [3, 4, 5, 0]), (8, [3, 4, 5, 0]), (9, [3, 4, 5, 0]), (10, [3, 4, 5, 0]), (11, [3, 4, 5, 0, 6]), (12, [3, 4, 5, 0, 6]), (13, [4, 5, 0, 6]), (14, [4, 5, 0, 6]), (15, [4, 5, 0, 6]), (16, [4, 5, 0, 6]), (17, [5, 0, 6]), (18, [0, 6])]))) else (bif Nat.blt f 61 then (bif Nat.blt f 60 then ([(0, [0]), (1, [1]), (2, []), (3, [1]), (4, [1, 3]), (5, [3]), (6, [1, 3]), (7, [4, 3]), (8, []), (9, [3])]) else ([(0, [0, 1, 2]), (1, [0, 1, 2])])) else (bif Nat.blt f 62 then ([(0, [0, 1]), (1, [0, 1]), (2, [11, 1, 10, 0, 12]), (3, [11, 1, 10, 0, 12]), (4, [6, 11, 1, 10, 0, 12]), (5, [11, 1, 10, 0, 12, 7]), (6, [7]), (7, [12, 0, 10, 1, 11]), (8, [1, 0]), (9, [25, 0, 23, 24]), (10, [25, 0, 23, 24]), (11, [9, 25, 0, 23, 24]), (12, [9, 25, 0, 23, 24]), (13, [25, 0, 23, 24]), (14, [])]) else ([(0, [0, 1, 2]), (1, [1, 2, 3]), (2, [3, 7]), (3, [7])]))))))) else (bif Nat.blt f 94 then (bif Nat.blt f 78 then (bif Nat.blt f 70 then (bif Nat.blt f 66 then (bif Nat.blt f 64 then ([(0, [0, 2]), (1, [3, 2]), (2, [3, 2])]) else (bif Nat.blt f 65 then ([(0, [0])]) else ([(0, [0]), (1, [0]), (3, [0]), (5, [0]), (6, []), (4, []), (2, []), (7, [])]))) else (bif Nat.blt f 68 then (bif Nat.blt f 67 then ([(0, [0]), (1, [0])]) else ([(0, [0]), (1, [0]), (2, [0, 3]), (4, [0, 3]), (5, []), (3, [3, 0]), (6, [0])])) else (bif Nat.blt f 69 then ([(0, [0]), (1, [0])]) else ([(0, [0]), (1, [0]), (2, []), (3, [0]), (4, [0, 3]), (6, [0, 3]), (7, []), (5, [3, 0]), (8, [])])))) else (bif Nat.blt f 74 then (bif Nat.blt f 72 then (bif Nat.blt f 71 then ([(0, [0]), (1, [1]), (2, [1, 3]), (3, [3])]) else ([(0, [0]), (1, [1])])) else (bif Nat.blt f 73 then ([(0, [0]), (1, [0])]) else ([(0, [0]), (1, [1]), (2, [3, 1]), (3, [7, 3, 1]), (4, [7, 3, 1]), (5, [7, 3, 1]), (6, [1]), (7, [1, 3]), (8, [3, 15, 13, 14]), (9, [3, 15, 13, 14]), (10, [3, 5, 15, 13, 14]), (11, [15, 3, 13, 14]), (12, [3])]))) else (bif Nat.blt f 76 then (bif Nat.blt f 75 then ([(0, [0, 1]), (1, [2, 3, 4]), (2, [6, 2, 3, 4]), (3, [6, 2, 3, 4]), (4, [5, 6, 2, 3, 4]), (5, [6, 2, 3, 4]), (6, [2, 4])]) else ([(0, [0, 1]), (1, [2, 1, 4]), (2, [6, 2, 1, 4]), (3, [6, 2, 1, 4]), (4, [5, 6, 2, 1, 4]), (5, [6, 2, 1, 4]), (6, [2, 4])])) else (bif Nat.blt f 77 then ([(0, [1, 0])]) else ([(0, [0]), (1, [0])]))))) else (bif Nat.blt f 86 then (bif Nat.blt f 82 then (bif Nat.blt f 80 then (bif Nat.blt f 79 then ([(0, [0]), (1, [0]), (2, []), (3, [0]), (4, [9, 8, 0, 10]), (5, [9, 8, 0, 10]), (6, [3, 4, 9, 8, 0, 10]), (8, [10, 0, 8, 9, 4, 3]), (10, [3, 4, 9, 8, 0, 10]), (11, []), (9, []), (7, []), (12, [10, 0, 8, 9]), (13, [])]) else ([(0, [0, 1, 2]), (1, [3, 1, 2]), (2, [3, 1, 2])])) else (bif Nat.blt f 81 then ([(0, [0, 1]), (1, [1, 2]), (2, [6, 1, 2, 5]), (3, []), (4, [5, 2, 1]), (5, []), (6, [1, 2, 5]), (7, [1, 2, 5]), (8, [1, 2, 5, 7]), (9, [7]), (10, [5, 2, 1]), (11, [2, 1]), (12, [1, 8]), (13, [8]), (14, [1]), (15, []), (16, [])]) else ([(0, [1, 0]), (1, [3, 0]), (2, [5, 3, 0, 6, 7]), (3, [7]), (4, [6, 0, 3, 5]), (5, [23, 6, 0, 3, 5]), (7, [6, 23, 5, 3, 0]), (15, [3, 0, 23, 5, 6]), (18, [6, 23, 0, 3, 5]), (21, [3, 0, 23, 6, 5]), (24, [6, 23, 5, 0, 3]), (31, [23, 5, 6, 3, 0]), (32, [5, 6, 3, 0]), (33, []), (34, [0, 3]), (35, [0, 3]), (36, [0, 3]), (37, [0, 3, 11]), (38, [11]), (25, [5, 0, 3]), (26, []), (27, [3, 0]), (28, [3, 0, 10]), (29, [10]), (30, [0, 3]), (22, [5]), (23, []), (19, [5]), (20, []), (16, [5, 6]), (17, []), (8, [5, 3, 0]), (9, [9, 8, 5, 3, 0]), (11, [0, 3, 5, 8]), (13, [8, 5]), (14, []), (12, []), (10, []), (6, [0, 3, 5]), (39, [])]))) else (bif Nat.blt f 84 then (bif Nat.blt f 83 then ([(0, [1, 0, 2]), (1, [9, 8, 2, 0, 10]), (2, [9, 8, 2, 0, 10]), (3, [9, 8, 2, 0, 10, 7]), (4, [7, 10, 0, 2, 8, 9]), (5, [7, 10, 0, 2, 8, 9]), (6, [7, 10, 0, 2, 8, 9]), (7, [7, 10, 0, 2, 8, 9]), (8, [7, 10, 0, 2, 8, 9]), (9, [7, 10, 0, 2, 8, 9]), (10, [10, 0, 2, 8, 9])]) else ([(0, [0]), (1, [0])])) else (bif Nat.blt f 85 then ([(0, [0]), (1, [0]), (2, [6, 0]), (3, [7, 6, 0]), (4, [4, 6, 0, 3]), (5, [3]), (6, [0])]) else ([(0, [0]), (1, [0]), (2, [3]), (3, [3]), (4, [3]), (5, [3]), (6, [3]), (7, [3]), (8, [3]), (9, [3]), (10, [3]), (11, [3]), (12, [3]), (13, [3]), (14, [3]), (15, [3]), (16, [3]), (17, [3]), (18, [3]), (19, [3]), (20, [3]), (21, [3]), (22, [3]), (23, [3]), (24, [3]), (25, [3]), (26, [3]), (27, []), (28, [])])))) else (bif Nat.blt f 90 then (bif Nat.blt f 88 then (bif Nat.blt f 87 then ([(0, [0]), (1, [0])]) else ([(0, [1, 0]), (1, [1, 0]), (2, [1, 0]), (3, [1])])) else (bif Nat.blt f 89 then ([(0, [0]), (1, [0])]) else ([(0, [0])]))) else (bif Nat.blt f 92 then (bif Nat.blt f 91 then ([(0, [0, 1]), (1, [2, 1])]) else ([(0, [0]), (1, [1, 2]), (2, [3, 1, 2]), (3, [3, 1, 2]), (4, [11, 1, 9, 2, 10]), (5, [11, 1, 9, 2, 10]), (6, [5, 11, 1, 9, 2, 10]), (7, [11, 1, 9, 2, 10]), (8, [1, 2])])) else (bif Nat.blt f 93 then ([(0, [1, 0])]) else ([(0, [0, 1]), (1, [1, 2]), (2, []), (3, [2, 1]), (4, [13, 12, 1, 14]), (5, [13, 12, 1, 14]), (6, [6, 13, 12, 1, 14]), (7, []), (8, [14, 1, 12, 13]), (9, [])])))))) else (bif Nat.blt f 110 then (bif Nat.blt f 102 then (bif Nat.blt f 98 then (bif Nat.blt f 96 then (bif Nat.blt f 95 then ([(0, [0, 1]), (1, [0, 1])]) else ([(0, [0, 1]), (1, [2, 1])])) else (bif Nat.blt f 97 then ([(0, [0]), (1, [0, 2]), (2, [4, 2]), (3, [4, 2]), (5, [4, 2]), (7, [4, 2]), (8, [4, 2]), (10, [4, 2]), (12, [4, 2]), (14, [4, 2]), (15, [2]), (13, [2]), (11, [2]), (9, [2]), (6, [2]), (4, [2]), (16, [2])]) else ([(0, [0, 1]), (1, [3, 2]), (2, []), (3, [2]), (4, [68, 2]), (6, [68, 2]), (7, [2]), (5, [2]), (8, [])]))) else (bif Nat.blt f 100 then (bif Nat.blt f 99 then ([(0, [1, 0]), (1, [0, 3, 5]), (2, []), (3, [5, 3, 0]), (4, [6, 5, 3, 0, 4]), (5, [3, 0, 4]), (6, [4, 5, 6])]) else ([(0, [1, 0]), (1, [3, 0]), (2, [0, 3]), (3, [0, 3])])) else (bif Nat.blt f 101 then ([(0, [0]), (1, [0])]) else ([(0, [1, 0]), (1, [1, 0]), (2, [0, 1, 5]), (4, [0, 1, 5]), (5, []), (3, [5, 1, 0]), (6, [])])))) else (bif Nat.blt f 106 then (bif Nat.blt f 104 then (bif Nat.blt f 103 then ([(0, []), (1, [])]) else ([(0, [0, 1]), (1, [0, 1]), (2, [7, 1, 0, 8]), (3, [7, 1, 0, 8]), (4, [7, 1, 0, 8, 5]), (5, [5]), (6, [8, 0, 1, 7]), (7, [])])) else (bif Nat.blt f 105 then ([(0, [0]), (1, [1])]) else ([(0, [0, 1]), (1, [1, 2]), (2, [1, 2]), (3, [7, 6]), (5, [6]), (6, []), (4, []), (7, [6]), (8, [1, 2]), (9, [8, 1, 2]), (10, [40, 2, 39, 1, 41, 8]), (11, [40, 2, 39, 1, 41, 8]), (12, [10, 40, 2, 39, 1, 41, 8]), (13, [40, 2, 39, 1, 41, 11, 8, 12]), (14, [12]), (15, [8, 11, 41, 1, 39, 2, 40]), (16, [41, 8, 1, 39, 2, 40]), (17, [2, 8]), (18, [2, 8]), (19, []), (20, []), (21, [2, 8]), (22, [8, 13, 14]), (23, [90, 14, 89, 13, 91]), (24, [90, 14, 89, 13, 91]), (25, [16, 90, 14, 89, 13, 91]), (26, []), (27, [91, 13, 89, 14, 90]), (28, [14])]))) else (bif Nat.blt f 108 then (bif Nat.blt f 107 then ([(0, [1, 0]), (1, [0, 3]), (2, [3, 0]), (3, [3, 0]), (4, [21, 0, 19, 20]), (5, [21, 0, 19, 20]), (6, [5, 21, 0, 19, 20]), (7, [21, 0, 19, 20])]) else ([(0, [0]), (1, [0])])) else (bif Nat.blt f 109 then ([(0, [1, 0]), (1, [1, 0])]) else ([(0, [0]), (1, [0]), (2, [4]), (3, [4]), (4, [4]), (5, [4]), (6, [4]), (7, [4]), (8, [4]), (9, [4]), (10, [4]), (11, [4]), (13, [4]), (14, [4]), (15, [4]), (17, [4]), (18, [4]), (19, [4]), (21, [4]), (23, [4]), (24, [4]), (25, []), (22, []), (20, []), (16, []), (12, []), (26, [])]))))) else ([])))

def okL : List Nat := [3, 4, 5, 6, 7, 8, 9, 10, 11, 12, 13, 14, 15, 16, 17, 18, 19, 20, 21, 22, 23, 24, 25, 26, 27, 28, 29, 30, 31, 32, 33, 34, 35, 36, 37, 38, 39, 40, 41, 42, 43, 44, 45, 46, 47, 48, 49, 50, 51, 52, 53, 54, 55, 56, 57, 58, 59, 60, 61, 62, 63, 64, 65, 66, 67, 68, 69, 70, 71, 73, 74, 75, 76, 77, 78, 79, 80, 81, 82, 83, 84, 85, 86, 87, 88, 89, 90, 91, 92, 93, 94, 95, 96, 97, 98, 99, 100, 101, 102, 103, 104, 105, 106, 107, 108, 109]


def findL : Nat → List (Nat × List Nat) → Option (List Nat)
  | _, [] => none
  | r, (s, l) :: rest => bif Nat.beq r s then some l else findL r rest
/-- what is left to be known from outside -/
def extL : List Nat := [8, 54]
noncomputable def C : ACtx := { P := Try.prog, esc := escT, own := fun f => [48, 33, 35].contains f, live := fun f r => findL r (liveL f), ext := fun f => bif extL.contains f then some failFn else none }
noncomputable def C0 : ACtx := { P := Try.prog, esc := escT, own := fun f => [48, 33, 35].contains f, live := fun f r => findL r (liveL f), ext := fun _ => none }
@[go_sem] theorem C_P : C.P = Try.prog := by rfl
@[go_sem] theorem own_3 : C.own 3 = false := by rfl
@[go_sem] theorem own_4 : C.own 4 = false := by rfl
@[go_sem] theorem own_5 : C.own 5 = false := by rfl
@[go_sem] theorem own_6 : C.own 6 = false := by rfl
@[go_sem] theorem own_7 : C.own 7 = false := by rfl
@[go_sem] theorem own_8 : C.own 8 = false := by rfl
@[go_sem] theorem own_9 : C.own 9 = false := by rfl
@[go_sem] theorem own_10 : C.own 10 = false := by rfl
@[go_sem] theorem own_11 : C.own 11 = false := by rfl
@[go_sem] theorem own_12 : C.own 12 = false := by rfl
@[go_sem] theorem own_13 : C.own 13 = false := by rfl
@[go_sem] theorem own_14 : C.own 14 = false := by rfl
@[go_sem] theorem own_15 : C.own 15 = false := by rfl
@[go_sem] theorem own_16 : C.own 16 = false := by rfl
@[go_sem] theorem own_17 : C.own 17 = false := by rfl
@[go_sem] theorem own_18 : C.own 18 = false := by rfl
@[go_sem] theorem own_19 : C.own 19 = false := by rfl
@[go_sem] theorem own_20 : C.own 20 = false := by rfl
@[go_sem] theorem own_21 : C.own 21 = false := by rfl
@[go_sem] theorem own_22 : C.own 22 = false := by rfl
@[go_sem] theorem own_23 : C.own 23 = false := by rfl
@[go_sem] theorem own_24 : C.own 24 = false := by rfl
@[go_sem] theorem own_25 : C.own 25 = false := by rfl
@[go_sem] theorem own_26 : C.own 26 = false := by rfl
@[go_sem] theorem own_27 : C.own 27 = false := by rfl
@[go_sem] theorem own_28 : C.own 28 = false := by rfl
@[go_sem] theorem own_29 : C.own 29 = false := by rfl
@[go_sem] theorem own_30 : C.own 30 = false := by rfl
@[go_sem] theorem own_31 : C.own 31 = false := by rfl
@[go_sem] theorem own_32 : C.own 32 = false := by rfl
@[go_sem] theorem own_33 : C.own 33 = true := by rfl
@[go_sem] theorem own_34 : C.own 34 = false := by rfl
@[go_sem] theorem own_35 : C.own 35 = true := by rfl
@[go_sem] theorem own_36 : C.own 36 = false := by rfl
@[go_sem] theorem own_37 : C.own 37 = false := by rfl
@[go_sem] theorem own_38 : C.own 38 = false := by rfl
@[go_sem] theorem own_39 : C.own 39 = false := by rfl
@[go_sem] theorem own_40 : C.own 40 = false := by rfl
@[go_sem] theorem own_41 : C.own 41 = false := by rfl
@[go_sem] theorem own_42 : C.own 42 = false := by rfl
@[go_sem] theorem own_43 : C.own 43 = false := by rfl
@[go_sem] theorem own_44 : C.own 44 = false := by rfl
@[go_sem] theorem own_45 : C.own 45 = false := by rfl
@[go_sem] theorem own_46 : C.own 46 = false := by rfl
@[go_sem] theorem own_47 : C.own 47 = false := by rfl
@[go_sem] theorem own_48 : C.own 48 = true := by rfl
@[go_sem] theorem own_49 : C.own 49 = false := by rfl
@[go_sem] theorem own_50 : C.own 50 = false := by rfl
@[go_sem] theorem own_51 : C.own 51 = false := by rfl
@[go_sem] theorem own_52 : C.own 52 = false := by rfl
@[go_sem] theorem own_53 : C.own 53 = false := by rfl
@[go_sem] theorem own_54 : C.own 54 = false := by rfl
@[go_sem] theorem own_55 : C.own 55 = false := by rfl
@[go_sem] theorem own_56 : C.own 56 = false := by rfl
@[go_sem] theorem own_57 : C.own 57 = false := by rfl
@[go_sem] theorem own_58 : C.own 58 = false := by rfl
@[go_sem] theorem own_59 : C.own 59 = false := by rfl
@[go_sem] theorem own_60 : C.own 60 = false := by rfl
@[go_sem] theorem own_61 : C.own 61 = false := by rfl
@[go_sem] theorem own_62 : C.own 62 = false := by rfl
@[go_sem] theorem own_63 : C.own 63 = false := by rfl
@[go_sem] theorem own_64 : C.own 64 = false := by rfl
@[go_sem] theorem own_65 : C.own 65 = false := by rfl
@[go_sem] theorem own_66 : C.own 66 = false := by rfl
@[go_sem] theorem own_67 : C.own 67 = false := by rfl
@[go_sem] theorem own_68 : C.own 68 = false := by rfl
@[go_sem] theorem own_69 : C.own 69 = false := by rfl
@[go_sem] theorem own_70 : C.own 70 = false := by rfl
@[go_sem] theorem own_71 : C.own 71 = false := by rfl
@[go_sem] theorem own_73 : C.own 73 = false := by rfl
@[go_sem] theorem own_74 : C.own 74 = false := by rfl
@[go_sem] theorem own_75 : C.own 75 = false := by rfl
@[go_sem] theorem own_76 : C.own 76 = false := by rfl
@[go_sem] theorem own_77 : C.own 77 = false := by rfl
@[go_sem] theorem own_78 : C.own 78 = false := by rfl
@[go_sem] theorem own_79 : C.own 79 = false := by rfl
@[go_sem] theorem own_80 : C.own 80 = false := by rfl
@[go_sem] theorem own_81 : C.own 81 = false := by rfl
@[go_sem] theorem own_82 : C.own 82 = false := by rfl
@[go_sem] theorem own_83 : C.own 83 = false := by rfl
@[go_sem] theorem own_84 : C.own 84 = false := by rfl
@[go_sem] theorem own_85 : C.own 85 = false := by rfl
@[go_sem] theorem own_86 : C.own 86 = false := by rfl
@[go_sem] theorem own_87 : C.own 87 = false := by rfl
@[go_sem] theorem own_88 : C.own 88 = false := by rfl
@[go_sem] theorem own_89 : C.own 89 = false := by rfl
@[go_sem] theorem own_90 : C.own 90 = false := by rfl
@[go_sem] theorem own_91 : C.own 91 = false := by rfl
@[go_sem] theorem own_92 : C.own 92 = false := by rfl
@[go_sem] theorem own_93 : C.own 93 = false := by rfl
@[go_sem] theorem own_94 : C.own 94 = false := by rfl
@[go_sem] theorem own_95 : C.own 95 = false := by rfl
@[go_sem] theorem own_96 : C.own 96 = false := by rfl
@[go_sem] theorem own_97 : C.own 97 = false := by rfl
@[go_sem] theorem own_98 : C.own 98 = false := by rfl
@[go_sem] theorem own_99 : C.own 99 = false := by rfl
@[go_sem] theorem own_100 : C.own 100 = false := by rfl
@[go_sem] theorem own_101 : C.own 101 = false := by rfl
@[go_sem] theorem own_102 : C.own 102 = false := by rfl
@[go_sem] theorem own_103 : C.own 103 = false := by rfl
@[go_sem] theorem own_104 : C.own 104 = false := by rfl
@[go_sem] theorem own_105 : C.own 105 = false := by rfl
@[go_sem] theorem own_106 : C.own 106 = false := by rfl
@[go_sem] theorem own_107 : C.own 107 = false := by rfl
@[go_sem] theorem own_108 : C.own 108 = false := by rfl
@[go_sem] theorem own_109 : C.own 109 = false := by rfl
theorem allOk : okL.all (fnOk Try.prog) = true := by kernel_rfl
theorem okOf : ∀ f, okL.contains f = true → fnOk Try.prog f = true := fun f h => List.all_eq_true.1 allOk f (by simpa using h)
theorem ok (f : FuncId) (h : okL.contains f = true) : fnOk C.P f = true := okOf f h
@[go_sem] theorem esc_3 : C.esc 3 = [] := by kernel_rfl
@[go_sem] theorem live_3_0 : C.live 3 0 = some [0, 1] := by kernel_rfl
@[go_sem] theorem live_3_1 : C.live 3 1 = some [1, 2] := by kernel_rfl
@[go_sem] theorem live_3_2 : C.live 3 2 = some [] := by kernel_rfl
@[go_sem] theorem live_3_3 : C.live 3 3 = some [2, 1] := by kernel_rfl
@[go_sem] theorem live_3_4 : C.live 3 4 = some [2, 1, 5, 6] := by kernel_rfl
@[go_sem] theorem live_3_5 : C.live 3 5 = some [5, 7, 6, 8] := by kernel_rfl
@[go_sem] theorem esc_4 : C.esc 4 = [] := by kernel_rfl
@[go_sem] theorem live_4_0 : C.live 4 0 = some [0] := by kernel_rfl
@[go_sem] theorem live_4_1 : C.live 4 1 = some [1] := by kernel_rfl
@[go_sem] theorem live_4_2 : C.live 4 2 = some [] := by kernel_rfl
@[go_sem] theorem live_4_3 : C.live 4 3 = some [1] := by kernel_rfl
@[go_sem] theorem live_4_4 : C.live 4 4 = some [4, 3, 1] := by kernel_rfl
@[go_sem] theorem live_4_5 : C.live 4 5 = some [] := by kernel_rfl
@[go_sem] theorem live_4_6 : C.live 4 6 = some [1, 3] := by kernel_rfl
@[go_sem] theorem live_4_7 : C.live 4 7 = some [5, 1, 3] := by kernel_rfl
@[go_sem] theorem live_4_8 : C.live 4 8 = some [7, 5, 6, 1, 3] := by kernel_rfl
@[go_sem] theorem live_4_9 : C.live 4 9 = some [6, 7, 8, 5, 1, 3] := by kernel_rfl
@[go_sem] theorem live_4_11 : C.live 4 11 = some [6, 7, 8, 5, 1, 3] := by kernel_rfl
@[go_sem] theorem live_4_12 : C.live 4 12 = some [6, 7, 8, 5, 1, 3] := by kernel_rfl
@[go_sem] theorem live_4_13 : C.live 4 13 = some [7, 8, 5, 6, 1, 3] := by kernel_rfl
@[go_sem] theorem live_4_14 : C.live 4 14 = some [7, 8, 5, 6, 1, 3] := by kernel_rfl
@[go_sem] theorem live_4_10 : C.live 4 10 = some [8, 7, 5, 6, 1, 3] := by kernel_rfl
@[go_sem] theorem live_4_15 : C.live 4 15 = some [6, 1, 3, 7] := by kernel_rfl
@[go_sem] theorem live_4_16 : C.live 4 16 = some [] := by kernel_rfl
@[go_sem] theorem live_4_17 : C.live 4 17 = some [7, 3, 1] := by kernel_rfl
@[go_sem] theorem live_4_18 : C.live 4 18 = some [] := by kernel_rfl
@[go_sem] theorem live_4_19 : C.live 4 19 = some [1, 3] := by kernel_rfl
@[go_sem] theorem live_4_20 : C.live 4 20 = some [3, 1, 9] := by kernel_rfl
@[go_sem] theorem live_4_22 : C.live 4 22 = some [3, 1, 9] := by kernel_rfl
@[go_sem] theorem live_4_23 : C.live 4 23 = some [] := by kernel_rfl
@[go_sem] theorem live_4_21 : C.live 4 21 = some [9, 1, 3] := by kernel_rfl
@[go_sem] theorem live_4_24 : C.live 4 24 = some [] := by kernel_rfl
@[go_sem] theorem esc_5 : C.esc 5 = [] := by kernel_rfl
@[go_sem] theorem live_5_0 : C.live 5 0 = some [0, 1] := by kernel_rfl
@[go_sem] theorem live_5_1 : C.live 5 1 = some [1, 2] := by kernel_rfl
@[go_sem] theorem live_5_2 : C.live 5 2 = some [] := by kernel_rfl
@[go_sem] theorem live_5_3 : C.live 5 3 = some [2, 1] := by kernel_rfl
@[go_sem] theorem live_5_4 : C.live 5 4 = some [6, 5] := by kernel_rfl
@[go_sem] theorem live_5_5 : C.live 5 5 = some [5] := by kernel_rfl
@[go_sem] theorem live_5_6 : C.live 5 6 = some [5] := by kernel_rfl
@[go_sem] theorem live_5_7 : C.live 5 7 = some [7, 5] := by kernel_rfl
@[go_sem] theorem live_5_8 : C.live 5 8 = some [7, 8, 5] := by kernel_rfl
@[go_sem] theorem live_5_10 : C.live 5 10 = some [7, 8, 5] := by kernel_rfl
@[go_sem] theorem live_5_12 : C.live 5 12 = some [43, 7, 8, 5] := by kernel_rfl
@[go_sem] theorem live_5_13 : C.live 5 13 = some [43, 7, 8, 5] := by kernel_rfl
@[go_sem] theorem live_5_14 : C.live 5 14 = some [43, 7, 8, 5] := by kernel_rfl
@[go_sem] theorem live_5_16 : C.live 5 16 = some [43, 5, 8, 7] := by kernel_rfl
@[go_sem] theorem live_5_11 : C.live 5 11 = some [] := by kernel_rfl
@[go_sem] theorem live_5_17 : C.live 5 17 = some [5, 8, 7] := by kernel_rfl
@[go_sem] theorem live_5_18 : C.live 5 18 = some [5, 8, 9, 7] := by kernel_rfl
@[go_sem] theorem live_5_19 : C.live 5 19 = some [] := by kernel_rfl
@[go_sem] theorem live_5_20 : C.live 5 20 = some [7, 9, 8, 5] := by kernel_rfl
@[go_sem] theorem live_5_15 : C.live 5 15 = some [7, 8, 5] := by kernel_rfl
@[go_sem] theorem live_5_9 : C.live 5 9 = some [8, 7, 5] := by kernel_rfl
@[go_sem] theorem live_5_21 : C.live 5 21 = some [7] := by kernel_rfl
@[go_sem] theorem esc_6 : C.esc 6 = [] := by kernel_rfl
@[go_sem] theorem live_6_0 : C.live 6 0 = some [0, 1] := by kernel_rfl
@[go_sem] theorem live_6_1 : C.live 6 1 = some [2, 1] := by kernel_rfl
@[go_sem] theorem esc_7 : C.esc 7 = [] := by kernel_rfl
@[go_sem] theorem live_7_0 : C.live 7 0 = some [0] := by kernel_rfl
@[go_sem] theorem live_7_1 : C.live 7 1 = some [0] := by kernel_rfl
@[go_sem] theorem live_7_2 : C.live 7 2 = some [] := by kernel_rfl
@[go_sem] theorem live_7_3 : C.live 7 3 = some [0] := by kernel_rfl
@[go_sem] theorem live_7_4 : C.live 7 4 = some [0, 3] := by kernel_rfl
@[go_sem] theorem live_7_6 : C.live 7 6 = some [0, 3] := by kernel_rfl
@[go_sem] theorem live_7_7 : C.live 7 7 = some [] := by kernel_rfl
@[go_sem] theorem live_7_5 : C.live 7 5 = some [3, 0] := by kernel_rfl
@[go_sem] theorem live_7_8 : C.live 7 8 = some [] := by kernel_rfl
@[go_sem] theorem esc_8 : C.esc 8 = [] := by kernel_rfl
@[go_sem] theorem live_8_0 : C.live 8 0 = some [] := by kernel_rfl
@[go_sem] theorem live_8_1 : C.live 8 1 = some [] := by kernel_rfl
@[go_sem] theorem live_8_2 : C.live 8 2 = some [1] := by kernel_rfl
@[go_sem] theorem live_8_3 : C.live 8 3 = some [1, 3, 2] := by kernel_rfl
@[go_sem] theorem live_8_4 : C.live 8 4 = some [3, 2, 5] := by kernel_rfl
@[go_sem] theorem live_8_5 : C.live 8 5 = some [3, 2, 5, 7, 6] := by kernel_rfl
@[go_sem] theorem live_8_6 : C.live 8 6 = some [3, 2, 5, 7, 6, 8] := by kernel_rfl
@[go_sem] theorem esc_9 : C.esc 9 = [15] := by kernel_rfl
@[go_sem] theorem live_9_0 : C.live 9 0 = some [0, 1] := by kernel_rfl
@[go_sem] theorem live_9_1 : C.live 9 1 = some [2, 1] := by kernel_rfl
@[go_sem] theorem live_9_2 : C.live 9 2 = some [2, 1, 6] := by kernel_rfl
@[go_sem] theorem live_9_3 : C.live 9 3 = some [6] := by kernel_rfl
@[go_sem] theorem live_9_4 : C.live 9 4 = some [1, 2] := by kernel_rfl
@[go_sem] theorem live_9_5 : C.live 9 5 = some [2, 7] := by kernel_rfl
@[go_sem] theorem live_9_6 : C.live 9 6 = some [] := by kernel_rfl
@[go_sem] theorem live_9_7 : C.live 9 7 = some [7] := by kernel_rfl
@[go_sem] theorem esc_10 : C.esc 10 = [] := by kernel_rfl
@[go_sem] theorem live_10_0 : C.live 10 0 = some [0, 1] := by kernel_rfl
@[go_sem] theorem live_10_1 : C.live 10 1 = some [2, 1] := by kernel_rfl
@[go_sem] theorem live_10_2 : C.live 10 2 = some [2, 1, 6] := by kernel_rfl
@[go_sem] theorem live_10_3 : C.live 10 3 = some [6] := by kernel_rfl
@[go_sem] theorem live_10_4 : C.live 10 4 = some [1, 2] := by kernel_rfl
@[go_sem] theorem live_10_5 : C.live 10 5 = some [] := by kernel_rfl
@[go_sem] theorem live_10_6 : C.live 10 6 = some [2, 1] := by kernel_rfl
@[go_sem] theorem esc_11 : C.esc 11 = [] := by kernel_rfl
@[go_sem] theorem live_11_0 : C.live 11 0 = some [0, 1] := by kernel_rfl
@[go_sem] theorem live_11_1 : C.live 11 1 = some [0, 1] := by kernel_rfl
@[go_sem] theorem live_11_2 : C.live 11 2 = some [] := by kernel_rfl
@[go_sem] theorem live_11_3 : C.live 11 3 = some [1, 0] := by kernel_rfl
@[go_sem] theorem live_11_4 : C.live 11 4 = some [0, 1, 5] := by kernel_rfl
@[go_sem] theorem live_11_6 : C.live 11 6 = some [0, 1, 5] := by kernel_rfl
@[go_sem] theorem live_11_7 : C.live 11 7 = some [] := by kernel_rfl
@[go_sem] theorem live_11_5 : C.live 11 5 = some [5, 1, 0] := by kernel_rfl
@[go_sem] theorem live_11_8 : C.live 11 8 = some [] := by kernel_rfl
@[go_sem] theorem esc_12 : C.esc 12 = [] := by kernel_rfl
@[go_sem] theorem live_12_0 : C.live 12 0 = some [0, 1] := by kernel_rfl
@[go_sem] theorem live_12_1 : C.live 12 1 = some [1, 2] := by kernel_rfl
@[go_sem] theorem live_12_2 : C.live 12 2 = some [] := by kernel_rfl
@[go_sem] theorem live_12_3 : C.live 12 3 = some [2, 1] := by kernel_rfl
@[go_sem] theorem live_12_4 : C.live 12 4 = some [1, 2, 5] := by kernel_rfl
@[go_sem] theorem live_12_6 : C.live 12 6 = some [1, 2, 5] := by kernel_rfl
@[go_sem] theorem live_12_7 : C.live 12 7 = some [] := by kernel_rfl
@[go_sem] theorem live_12_5 : C.live 12 5 = some [5, 2, 1] := by kernel_rfl
@[go_sem] theorem live_12_8 : C.live 12 8 = some [2, 1] := by kernel_rfl
@[go_sem] theorem esc_13 : C.esc 13 = [18] := by kernel_rfl
@[go_sem] theorem live_13_0 : C.live 13 0 = some [0] := by kernel_rfl
@[go_sem] theorem live_13_1 : C.live 13 1 = some [1, 2] := by kernel_rfl
@[go_sem] theorem live_13_2 : C.live 13 2 = some [1, 4, 2] := by kernel_rfl
@[go_sem] theorem live_13_3 : C.live 13 3 = some [4, 2] := by kernel_rfl
@[go_sem] theorem live_13_4 : C.live 13 4 = some [1, 2] := by kernel_rfl
@[go_sem] theorem live_13_5 : C.live 13 5 = some [1, 5, 2] := by kernel_rfl
@[go_sem] theorem live_13_6 : C.live 13 6 = some [2] := by kernel_rfl
@[go_sem] theorem live_13_7 : C.live 13 7 = some [5, 1, 2] := by kernel_rfl
@[go_sem] theorem live_13_8 : C.live 13 8 = some [5, 1, 2] := by kernel_rfl
@[go_sem] theorem live_13_9 : C.live 13 9 = some [5, 1, 2] := by kernel_rfl
@[go_sem] theorem live_13_10 : C.live 13 10 = some [1, 6, 2] := by kernel_rfl
@[go_sem] theorem live_13_11 : C.live 13 11 = some [48, 6, 46, 2, 47] := by kernel_rfl
@[go_sem] theorem live_13_12 : C.live 13 12 = some [48, 6, 46, 2, 47] := by kernel_rfl
@[go_sem] theorem live_13_13 : C.live 13 13 = some [8, 48, 6, 46, 2, 47] := by kernel_rfl
@[go_sem] theorem live_13_14 : C.live 13 14 = some [48, 6, 46, 2, 47] := by kernel_rfl
@[go_sem] theorem live_13_15 : C.live 13 15 = some [6, 2] := by kernel_rfl
@[go_sem] theorem esc_14 : C.esc 14 = [] := by kernel_rfl
@[go_sem] theorem live_14_0 : C.live 14 0 = some [0] := by kernel_rfl
@[go_sem] theorem live_14_1 : C.live 14 1 = some [1] := by kernel_rfl
@[go_sem] theorem esc_15 : C.esc 15 = [] := by kernel_rfl
@[go_sem] theorem live_15_0 : C.live 15 0 = some [1, 0] := by kernel_rfl
@[go_sem] theorem live_15_1 : C.live 15 1 = some [1, 0] := by kernel_rfl
@[go_sem] theorem live_15_2 : C.live 15 2 = some [5, 1, 0] := by kernel_rfl
@[go_sem] theorem live_15_3 : C.live 15 3 = some [5, 6, 1, 0] := by kernel_rfl
@[go_sem] theorem live_15_5 : C.live 15 5 = some [5, 6, 1, 0] := by kernel_rfl
@[go_sem] theorem live_15_6 : C.live 15 6 = some [5, 6, 1, 0] := by kernel_rfl
@[go_sem] theorem live_15_4 : C.live 15 4 = some [6, 5, 1, 0] := by kernel_rfl
@[go_sem] theorem live_15_7 : C.live 15 7 = some [5] := by kernel_rfl
@[go_sem] theorem esc_16 : C.esc 16 = [] := by kernel_rfl
@[go_sem] theorem live_16_0 : C.live 16 0 = some [0] := by kernel_rfl
@[go_sem] theorem live_16_1 : C.live 16 1 = some [1] := by kernel_rfl
@[go_sem] theorem live_16_2 : C.live 16 2 = some [1, 3] := by kernel_rfl
@[go_sem] theorem live_16_3 : C.live 16 3 = some [3, 4, 1] := by kernel_rfl
@[go_sem] theorem live_16_5 : C.live 16 5 = some [3, 4, 1] := by kernel_rfl
@[go_sem] theorem live_16_4 : C.live 16 4 = some [4, 1, 3] := by kernel_rfl
@[go_sem] theorem live_16_6 : C.live 16 6 = some [1, 3] := by kernel_rfl
@[go_sem] theorem live_16_7 : C.live 16 7 = some [5, 3] := by kernel_rfl
@[go_sem] theorem live_16_8 : C.live 16 8 = some [3, 6, 5] := by kernel_rfl
@[go_sem] theorem live_16_10 : C.live 16 10 = some [3, 6, 5] := by kernel_rfl
@[go_sem] theorem live_16_11 : C.live 16 11 = some [3, 6, 5] := by kernel_rfl
@[go_sem] theorem live_16_9 : C.live 16 9 = some [6, 5, 3] := by kernel_rfl
@[go_sem] theorem live_16_12 : C.live 16 12 = some [3] := by kernel_rfl
@[go_sem] theorem esc_17 : C.esc 17 = [] := by kernel_rfl
@[go_sem] theorem live_17_0 : C.live 17 0 = some [0] := by kernel_rfl
@[go_sem] theorem live_17_1 : C.live 17 1 = some [0] := by kernel_rfl
@[go_sem] theorem live_17_2 : C.live 17 2 = some [0, 3] := by kernel_rfl
@[go_sem] theorem live_17_3 : C.live 17 3 = some [0, 3] := by kernel_rfl
@[go_sem] theorem live_17_4 : C.live 17 4 = some [0, 3] := by kernel_rfl
@[go_sem] theorem live_17_5 : C.live 17 5 = some [0, 3] := by kernel_rfl
@[go_sem] theorem live_17_6 : C.live 17 6 = some [0, 3] := by kernel_rfl
@[go_sem] theorem live_17_7 : C.live 17 7 = some [0, 3] := by kernel_rfl
@[go_sem] theorem live_17_9 : C.live 17 9 = some [3, 0] := by kernel_rfl
@[go_sem] theorem live_17_10 : C.live 17 10 = some [3, 0] := by kernel_rfl
@[go_sem] theorem live_17_11 : C.live 17 11 = some [3, 0] := by kernel_rfl
@[go_sem] theorem live_17_12 : C.live 17 12 = some [3, 0] := by kernel_rfl
@[go_sem] theorem live_17_13 : C.live 17 13 = some [3, 0] := by kernel_rfl
@[go_sem] theorem live_17_14 : C.live 17 14 = some [3, 0] := by kernel_rfl
@[go_sem] theorem live_17_15 : C.live 17 15 = some [3, 0] := by kernel_rfl
@[go_sem] theorem live_17_16 : C.live 17 16 = some [] := by kernel_rfl
@[go_sem] theorem live_17_8 : C.live 17 8 = some [] := by kernel_rfl
@[go_sem] theorem live_17_17 : C.live 17 17 = some [0] := by kernel_rfl
@[go_sem] theorem live_17_18 : C.live 17 18 = some [] := by kernel_rfl
@[go_sem] theorem live_17_19 : C.live 17 19 = some [] := by kernel_rfl
@[go_sem] theorem esc_18 : C.esc 18 = [] := by kernel_rfl
@[go_sem] theorem live_18_0 : C.live 18 0 = some [0, 1] := by kernel_rfl
@[go_sem] theorem live_18_1 : C.live 18 1 = some [1, 2] := by kernel_rfl
@[go_sem] theorem live_18_2 : C.live 18 2 = some [5, 1, 2] := by kernel_rfl
@[go_sem] theorem live_18_3 : C.live 18 3 = some [5, 6, 1, 2] := by kernel_rfl
@[go_sem] theorem live_18_5 : C.live 18 5 = some [5, 6, 1, 2] := by kernel_rfl
@[go_sem] theorem live_18_4 : C.live 18 4 = some [6, 5, 1, 2] := by kernel_rfl
@[go_sem] theorem live_18_6 : C.live 18 6 = some [5] := by kernel_rfl
@[go_sem] theorem esc_19 : C.esc 19 = [] := by kernel_rfl
@[go_sem] theorem live_19_0 : C.live 19 0 = some [0] := by kernel_rfl
@[go_sem] theorem live_19_1 : C.live 19 1 = some [0, 2] := by kernel_rfl
@[go_sem] theorem esc_20 : C.esc 20 = [] := by kernel_rfl
@[go_sem] theorem live_20_0 : C.live 20 0 = some [] := by kernel_rfl
@[go_sem] theorem live_20_1 : C.live 20 1 = some [0] := by kernel_rfl
@[go_sem] theorem esc_21 : C.esc 21 = [] := by kernel_rfl
@[go_sem] theorem live_21_0 : C.live 21 0 = some [] := by kernel_rfl
@[go_sem] theorem live_21_1 : C.live 21 1 = some [0] := by kernel_rfl
@[go_sem] theorem live_21_2 : C.live 21 2 = some [1, 0] := by kernel_rfl
@[go_sem] theorem esc_22 : C.esc 22 = [] := by kernel_rfl
@[go_sem] theorem live_22_0 : C.live 22 0 = some [0, 1] := by kernel_rfl
@[go_sem] theorem live_22_1 : C.live 22 1 = some [2, 3] := by kernel_rfl
@[go_sem] theorem live_22_2 : C.live 22 2 = some [] := by kernel_rfl
@[go_sem] theorem live_22_3 : C.live 22 3 = some [3, 2] := by kernel_rfl
@[go_sem] theorem live_22_4 : C.live 22 4 = some [2, 3, 5] := by kernel_rfl
@[go_sem] theorem live_22_6 : C.live 22 6 = some [2, 3, 5] := by kernel_rfl
@[go_sem] theorem live_22_7 : C.live 22 7 = some [] := by kernel_rfl
@[go_sem] theorem live_22_5 : C.live 22 5 = some [5, 3, 2] := by kernel_rfl
@[go_sem] theorem live_22_8 : C.live 22 8 = some [2, 3] := by kernel_rfl
@[go_sem] theorem esc_23 : C.esc 23 = [] := by kernel_rfl
@[go_sem] theorem live_23_0 : C.live 23 0 = some [0] := by kernel_rfl
@[go_sem] theorem live_23_1 : C.live 23 1 = some [1] := by kernel_rfl
@[go_sem] theorem live_23_2 : C.live 23 2 = some [] := by kernel_rfl
@[go_sem] theorem live_23_3 : C.live 23 3 = some [1] := by kernel_rfl
@[go_sem] theorem live_23_4 : C.live 23 4 = some [1, 3] := by kernel_rfl
@[go_sem] theorem live_23_5 : C.live 23 5 = some [1, 4, 3] := by kernel_rfl
@[go_sem] theorem live_23_6 : C.live 23 6 = some [3, 16, 4, 14, 15] := by kernel_rfl
@[go_sem] theorem live_23_7 : C.live 23 7 = some [3, 16, 4, 14, 15] := by kernel_rfl
@[go_sem] theorem live_23_8 : C.live 23 8 = some [3, 6, 16, 4, 14, 15] := by kernel_rfl
@[go_sem] theorem live_23_9 : C.live 23 9 = some [6, 3, 16, 4, 14, 15] := by kernel_rfl
@[go_sem] theorem live_23_10 : C.live 23 10 = some [3, 16, 4, 14, 15] := by kernel_rfl
@[go_sem] theorem live_23_11 : C.live 23 11 = some [16, 4, 3, 14, 15] := by kernel_rfl
@[go_sem] theorem live_23_12 : C.live 23 12 = some [3] := by kernel_rfl
@[go_sem] theorem esc_24 : C.esc 24 = [] := by kernel_rfl
@[go_sem] theorem live_24_0 : C.live 24 0 = some [0] := by kernel_rfl
@[go_sem] theorem live_24_1 : C.live 24 1 = some [1] := by kernel_rfl
@[go_sem] theorem esc_25 : C.esc 25 = [] := by kernel_rfl
@[go_sem] theorem live_25_0 : C.live 25 0 = some [1, 0] := by kernel_rfl
@[go_sem] theorem live_25_1 : C.live 25 1 = some [0, 3] := by kernel_rfl
@[go_sem] theorem live_25_2 : C.live 25 2 = some [10, 0, 3] := by kernel_rfl
@[go_sem] theorem live_25_5 : C.live 25 5 = some [10, 0, 3] := by kernel_rfl
@[go_sem] theorem live_25_8 : C.live 25 8 = some [10, 3, 0] := by kernel_rfl
@[go_sem] theorem live_25_9 : C.live 25 9 = some [3, 0] := by kernel_rfl
@[go_sem] theorem live_25_10 : C.live 25 10 = some [0, 5] := by kernel_rfl
@[go_sem] theorem live_25_11 : C.live 25 11 = some [5] := by kernel_rfl
@[go_sem] theorem live_25_6 : C.live 25 6 = some [0, 3] := by kernel_rfl
@[go_sem] theorem live_25_7 : C.live 25 7 = some [] := by kernel_rfl
@[go_sem] theorem live_25_3 : C.live 25 3 = some [0, 3] := by kernel_rfl
@[go_sem] theorem live_25_4 : C.live 25 4 = some [] := by kernel_rfl
@[go_sem] theorem live_25_12 : C.live 25 12 = some [0, 3] := by kernel_rfl
@[go_sem] theorem live_25_13 : C.live 25 13 = some [6, 0, 3] := by kernel_rfl
@[go_sem] theorem live_25_14 : C.live 25 14 = some [6, 46, 0, 44, 3, 45] := by kernel_rfl
@[go_sem] theorem live_25_15 : C.live 25 15 = some [6, 46, 0, 44, 3, 45] := by kernel_rfl
@[go_sem] theorem live_25_16 : C.live 25 16 = some [8, 6, 46, 0, 44, 3, 45] := by kernel_rfl
@[go_sem] theorem live_25_17 : C.live 25 17 = some [46, 6, 0, 44, 3, 45] := by kernel_rfl
@[go_sem] theorem live_25_18 : C.live 25 18 = some [0, 3, 6] := by kernel_rfl
@[go_sem] theorem live_25_19 : C.live 25 19 = some [6] := by kernel_rfl
@[go_sem] theorem esc_26 : C.esc 26 = [] := by kernel_rfl
@[go_sem] theorem live_26_0 : C.live 26 0 = some [0] := by kernel_rfl
@[go_sem] theorem live_26_1 : C.live 26 1 = some [1] := by kernel_rfl
@[go_sem] theorem esc_27 : C.esc 27 = [] := by kernel_rfl
@[go_sem] theorem live_27_0 : C.live 27 0 = some [0, 1] := by kernel_rfl
@[go_sem] theorem live_27_1 : C.live 27 1 = some [2, 1] := by kernel_rfl
@[go_sem] theorem live_27_2 : C.live 27 2 = some [] := by kernel_rfl
@[go_sem] theorem live_27_3 : C.live 27 3 = some [1, 2] := by kernel_rfl
@[go_sem] theorem live_27_4 : C.live 27 4 = some [2, 1, 5] := by kernel_rfl
@[go_sem] theorem live_27_6 : C.live 27 6 = some [2, 1, 5] := by kernel_rfl
@[go_sem] theorem live_27_7 : C.live 27 7 = some [] := by kernel_rfl
@[go_sem] theorem live_27_5 : C.live 27 5 = some [5, 1, 2] := by kernel_rfl
@[go_sem] theorem live_27_8 : C.live 27 8 = some [] := by kernel_rfl
@[go_sem] theorem esc_28 : C.esc 28 = [] := by kernel_rfl
@[go_sem] theorem live_28_0 : C.live 28 0 = some [0, 1] := by kernel_rfl
@[go_sem] theorem live_28_1 : C.live 28 1 = some [1, 2] := by kernel_rfl
@[go_sem] theorem live_28_2 : C.live 28 2 = some [8, 1, 2] := by kernel_rfl
@[go_sem] theorem live_28_4 : C.live 28 4 = some [1, 8, 2] := by kernel_rfl
@[go_sem] theorem live_28_6 : C.live 28 6 = some [8, 1, 2] := by kernel_rfl
@[go_sem] theorem live_28_7 : C.live 28 7 = some [1, 2] := by kernel_rfl
@[go_sem] theorem live_28_5 : C.live 28 5 = some [2] := by kernel_rfl
@[go_sem] theorem live_28_3 : C.live 28 3 = some [2] := by kernel_rfl
@[go_sem] theorem live_28_8 : C.live 28 8 = some [1, 2] := by kernel_rfl
@[go_sem] theorem live_28_9 : C.live 28 9 = some [1, 2, 5] := by kernel_rfl
@[go_sem] theorem live_28_10 : C.live 28 10 = some [5, 6, 1, 2] := by kernel_rfl
@[go_sem] theorem live_28_12 : C.live 28 12 = some [5, 6, 1, 2] := by kernel_rfl
@[go_sem] theorem live_28_11 : C.live 28 11 = some [6, 1, 2, 5] := by kernel_rfl
@[go_sem] theorem live_28_13 : C.live 28 13 = some [5, 2] := by kernel_rfl
@[go_sem] theorem esc_29 : C.esc 29 = [] := by kernel_rfl
@[go_sem] theorem live_29_0 : C.live 29 0 = some [1, 0] := by kernel_rfl
@[go_sem] theorem live_29_1 : C.live 29 1 = some [1, 0] := by kernel_rfl
@[go_sem] theorem live_29_2 : C.live 29 2 = some [1, 0, 5] := by kernel_rfl
@[go_sem] theorem live_29_3 : C.live 29 3 = some [5, 6, 1, 0] := by kernel_rfl
@[go_sem] theorem live_29_5 : C.live 29 5 = some [5, 6, 1, 0] := by kernel_rfl
@[go_sem] theorem live_29_6 : C.live 29 6 = some [5, 6, 1, 0] := by kernel_rfl
@[go_sem] theorem live_29_7 : C.live 29 7 = some [5, 6, 1, 0] := by kernel_rfl
@[go_sem] theorem live_29_8 : C.live 29 8 = some [5, 6, 1, 0] := by kernel_rfl
@[go_sem] theorem live_29_9 : C.live 29 9 = some [5, 6, 1, 0] := by kernel_rfl
@[go_sem] theorem live_29_4 : C.live 29 4 = some [6, 1, 0, 5] := by kernel_rfl
@[go_sem] theorem live_29_10 : C.live 29 10 = some [5] := by kernel_rfl
@[go_sem] theorem esc_30 : C.esc 30 = [] := by kernel_rfl
@[go_sem] theorem live_30_0 : C.live 30 0 = some [0] := by kernel_rfl
@[go_sem] theorem live_30_1 : C.live 30 1 = some [1] := by kernel_rfl
@[go_sem] theorem live_30_2 : C.live 30 2 = some [1, 3] := by kernel_rfl
@[go_sem] theorem live_30_3 : C.live 30 3 = some [3] := by kernel_rfl
@[go_sem] theorem live_30_4 : C.live 30 4 = some [1] := by kernel_rfl
@[go_sem] theorem live_30_5 : C.live 30 5 = some [4] := by kernel_rfl
@[go_sem] theorem live_30_7 : C.live 30 7 = some [4] := by kernel_rfl
@[go_sem] theorem live_30_8 : C.live 30 8 = some [4] := by kernel_rfl
@[go_sem] theorem live_30_9 : C.live 30 9 = some [4] := by kernel_rfl
@[go_sem] theorem live_30_10 : C.live 30 10 = some [] := by kernel_rfl
@[go_sem] theorem live_30_6 : C.live 30 6 = some [] := by kernel_rfl
@[go_sem] theorem live_30_11 : C.live 30 11 = some [] := by kernel_rfl
@[go_sem] theorem esc_31 : C.esc 31 = [] := by kernel_rfl
@[go_sem] theorem live_31_0 : C.live 31 0 = some [1, 0] := by kernel_rfl
@[go_sem] theorem live_31_1 : C.live 31 1 = some [8, 0, 6, 7] := by kernel_rfl
@[go_sem] theorem live_31_2 : C.live 31 2 = some [8, 0, 6, 7] := by kernel_rfl
@[go_sem] theorem live_31_3 : C.live 31 3 = some [5, 8, 0, 6, 7] := by kernel_rfl
@[go_sem] theorem live_31_4 : C.live 31 4 = some [8, 0, 6, 7] := by kernel_rfl
@[go_sem] theorem esc_32 : C.esc 32 = [] := by kernel_rfl
@[go_sem] theorem live_32_0 : C.live 32 0 = some [0, 1] := by kernel_rfl
@[go_sem] theorem esc_33 : C.esc 33 = [] := by kernel_rfl
@[go_sem] theorem live_33_0 : C.live 33 0 = some [2, 1, 0] := by kernel_rfl
@[go_sem] theorem live_33_1 : C.live 33 1 = some [2, 1, 0] := by kernel_rfl
@[go_sem] theorem live_33_2 : C.live 33 2 = some [0, 7, 2, 1] := by kernel_rfl
@[go_sem] theorem live_33_4 : C.live 33 4 = some [0, 7, 2, 1] := by kernel_rfl
@[go_sem] theorem live_33_5 : C.live 33 5 = some [0, 7, 2, 1] := by kernel_rfl
@[go_sem] theorem live_33_6 : C.live 33 6 = some [0, 7, 2, 1] := by kernel_rfl
@[go_sem] theorem live_33_7 : C.live 33 7 = some [0, 7, 2, 1] := by kernel_rfl
@[go_sem] theorem live_33_8 : C.live 33 8 = some [0, 7, 2, 1] := by kernel_rfl
@[go_sem] theorem live_33_9 : C.live 33 9 = some [0, 7, 2, 1] := by kernel_rfl
@[go_sem] theorem live_33_10 : C.live 33 10 = some [0, 7, 2, 1] := by kernel_rfl
@[go_sem] theorem live_33_3 : C.live 33 3 = some [7, 2, 1, 0] := by kernel_rfl
@[go_sem] theorem live_33_11 : C.live 33 11 = some [0] := by kernel_rfl
@[go_sem] theorem esc_34 : C.esc 34 = [] := by kernel_rfl
@[go_sem] theorem live_34_0 : C.live 34 0 = some [0] := by kernel_rfl
@[go_sem] theorem live_34_1 : C.live 34 1 = some [1] := by kernel_rfl
@[go_sem] theorem live_34_2 : C.live 34 2 = some [4] := by kernel_rfl
@[go_sem] theorem esc_35 : C.esc 35 = [] := by kernel_rfl
@[go_sem] theorem live_35_0 : C.live 35 0 = some [1, 0] := by kernel_rfl
@[go_sem] theorem live_35_1 : C.live 35 1 = some [1, 0] := by kernel_rfl
@[go_sem] theorem live_35_2 : C.live 35 2 = some [0, 9, 7, 8] := by kernel_rfl
@[go_sem] theorem live_35_3 : C.live 35 3 = some [0, 9, 7, 8] := by kernel_rfl
@[go_sem] theorem live_35_4 : C.live 35 4 = some [0, 6, 9, 7, 8] := by kernel_rfl
@[go_sem] theorem live_35_5 : C.live 35 5 = some [0, 6, 9, 7, 8] := by kernel_rfl
@[go_sem] theorem live_35_6 : C.live 35 6 = some [0, 6, 9, 7, 8] := by kernel_rfl
@[go_sem] theorem live_35_7 : C.live 35 7 = some [9, 0, 7, 8] := by kernel_rfl
@[go_sem] theorem live_35_8 : C.live 35 8 = some [0] := by kernel_rfl
@[go_sem] theorem esc_36 : C.esc 36 = [] := by kernel_rfl
@[go_sem] theorem live_36_0 : C.live 36 0 = some [0] := by kernel_rfl
@[go_sem] theorem live_36_1 : C.live 36 1 = some [1] := by kernel_rfl
@[go_sem] theorem live_36_2 : C.live 36 2 = some [4, 3, 1] := by kernel_rfl
@[go_sem] theorem live_36_3 : C.live 36 3 = some [] := by kernel_rfl
@[go_sem] theorem live_36_4 : C.live 36 4 = some [1, 3] := by kernel_rfl
@[go_sem] theorem live_36_5 : C.live 36 5 = some [1, 3, 5] := by kernel_rfl
@[go_sem] theorem live_36_6 : C.live 36 6 = some [5, 18, 3, 16, 17] := by kernel_rfl
@[go_sem] theorem live_36_7 : C.live 36 7 = some [5, 18, 3, 16, 17] := by kernel_rfl
@[go_sem] theorem live_36_8 : C.live 36 8 = some [5, 7, 18, 3, 16, 17] := by kernel_rfl
@[go_sem] theorem live_36_9 : C.live 36 9 = some [18, 3, 5, 16, 17] := by kernel_rfl
@[go_sem] theorem live_36_10 : C.live 36 10 = some [5] := by kernel_rfl
@[go_sem] theorem esc_37 : C.esc 37 = [] := by kernel_rfl
@[go_sem] theorem live_37_0 : C.live 37 0 = some [0, 1] := by kernel_rfl
@[go_sem] theorem live_37_1 : C.live 37 1 = some [0, 1] := by kernel_rfl
@[go_sem] theorem esc_38 : C.esc 38 = [] := by kernel_rfl
@[go_sem] theorem live_38_0 : C.live 38 0 = some [0, 1] := by kernel_rfl
@[go_sem] theorem live_38_1 : C.live 38 1 = some [1, 2] := by kernel_rfl
@[go_sem] theorem live_38_2 : C.live 38 2 = some [1, 2, 5] := by kernel_rfl
@[go_sem] theorem live_38_3 : C.live 38 3 = some [5] := by kernel_rfl
@[go_sem] theorem live_38_4 : C.live 38 4 = some [2, 1] := by kernel_rfl
@[go_sem] theorem live_38_5 : C.live 38 5 = some [17, 16, 1, 18] := by kernel_rfl
@[go_sem] theorem live_38_6 : C.live 38 6 = some [17, 16, 1, 18] := by kernel_rfl
@[go_sem] theorem live_38_7 : C.live 38 7 = some [7, 17, 16, 1, 18] := by kernel_rfl
@[go_sem] theorem live_38_8 : C.live 38 8 = some [17, 16, 1, 18, 8] := by kernel_rfl
@[go_sem] theorem live_38_9 : C.live 38 9 = some [8] := by kernel_rfl
@[go_sem] theorem live_38_10 : C.live 38 10 = some [18, 1, 16, 17] := by kernel_rfl
@[go_sem] theorem live_38_11 : C.live 38 11 = some [] := by kernel_rfl
@[go_sem] theorem esc_39 : C.esc 39 = [] := by kernel_rfl
@[go_sem] theorem live_39_0 : C.live 39 0 = some [1, 0] := by kernel_rfl
@[go_sem] theorem live_39_1 : C.live 39 1 = some [3, 0] := by kernel_rfl
@[go_sem] theorem live_39_2 : C.live 39 2 = some [0] := by kernel_rfl
@[go_sem] theorem esc_40 : C.esc 40 = [] := by kernel_rfl
@[go_sem] theorem live_40_0 : C.live 40 0 = some [1, 0] := by kernel_rfl
@[go_sem] theorem live_40_1 : C.live 40 1 = some [1, 0] := by kernel_rfl
@[go_sem] theorem live_40_2 : C.live 40 2 = some [] := by kernel_rfl
@[go_sem] theorem live_40_3 : C.live 40 3 = some [0, 1] := by kernel_rfl
@[go_sem] theorem esc_41 : C.esc 41 = [] := by kernel_rfl
@[go_sem] theorem live_41_0 : C.live 41 0 = some [0, 1, 2] := by kernel_rfl
@[go_sem] theorem esc_42 : C.esc 42 = [] := by kernel_rfl
@[go_sem] theorem live_42_0 : C.live 42 0 = some [0, 1] := by kernel_rfl
@[go_sem] theorem live_42_1 : C.live 42 1 = some [2, 1] := by kernel_rfl
@[go_sem] theorem live_42_2 : C.live 42 2 = some [2, 1, 5] := by kernel_rfl
@[go_sem] theorem live_42_3 : C.live 42 3 = some [5] := by kernel_rfl
@[go_sem] theorem live_42_4 : C.live 42 4 = some [1, 2] := by kernel_rfl
@[go_sem] theorem live_42_5 : C.live 42 5 = some [2, 1, 6] := by kernel_rfl
@[go_sem] theorem live_42_7 : C.live 42 7 = some [2, 1, 6] := by kernel_rfl
@[go_sem] theorem live_42_8 : C.live 42 8 = some [2, 1, 6, 7] := by kernel_rfl
@[go_sem] theorem live_42_9 : C.live 42 9 = some [7] := by kernel_rfl
@[go_sem] theorem live_42_6 : C.live 42 6 = some [6, 1, 2] := by kernel_rfl
@[go_sem] theorem live_42_10 : C.live 42 10 = some [] := by kernel_rfl
@[go_sem] theorem esc_43 : C.esc 43 = [] := by kernel_rfl
@[go_sem] theorem live_43_0 : C.live 43 0 = some [1, 0] := by kernel_rfl
@[go_sem] theorem live_43_1 : C.live 43 1 = some [1, 0] := by kernel_rfl
@[go_sem] theorem live_43_2 : C.live 43 2 = some [0, 1, 5] := by kernel_rfl
@[go_sem] theorem live_43_4 : C.live 43 4 = some [0, 1, 5] := by kernel_rfl
@[go_sem] theorem live_43_5 : C.live 43 5 = some [5] := by kernel_rfl
@[go_sem] theorem live_43_3 : C.live 43 3 = some [5, 1, 0] := by kernel_rfl
@[go_sem] theorem live_43_6 : C.live 43 6 = some [] := by kernel_rfl
@[go_sem] theorem esc_44 : C.esc 44 = [] := by kernel_rfl
@[go_sem] theorem live_44_0 : C.live 44 0 = some [0] := by kernel_rfl
@[go_sem] theorem live_44_1 : C.live 44 1 = some [1] := by kernel_rfl
@[go_sem] theorem live_44_2 : C.live 44 2 = some [1, 3] := by kernel_rfl
@[go_sem] theorem live_44_3 : C.live 44 3 = some [3] := by kernel_rfl
@[go_sem] theorem live_44_4 : C.live 44 4 = some [1] := by kernel_rfl
@[go_sem] theorem live_44_5 : C.live 44 5 = some [6] := by kernel_rfl
@[go_sem] theorem live_44_6 : C.live 44 6 = some [] := by kernel_rfl
@[go_sem] theorem live_44_7 : C.live 44 7 = some [] := by kernel_rfl
@[go_sem] theorem esc_45 : C.esc 45 = [] := by kernel_rfl
@[go_sem] theorem live_45_0 : C.live 45 0 = some [0] := by kernel_rfl
@[go_sem] theorem live_45_1 : C.live 45 1 = some [0, 2] := by kernel_rfl
@[go_sem] theorem live_45_2 : C.live 45 2 = some [0, 3, 2] := by kernel_rfl
@[go_sem] theorem live_45_3 : C.live 45 3 = some [8, 3, 6, 2, 7] := by kernel_rfl
@[go_sem] theorem live_45_4 : C.live 45 4 = some [8, 3, 6, 2, 7] := by kernel_rfl
@[go_sem] theorem live_45_5 : C.live 45 5 = some [5, 8, 3, 6, 2, 7] := by kernel_rfl
@[go_sem] theorem live_45_6 : C.live 45 6 = some [8, 3, 6, 2, 7] := by kernel_rfl
@[go_sem] theorem live_45_7 : C.live 45 7 = some [3, 2] := by kernel_rfl
@[go_sem] theorem esc_46 : C.esc 46 = [] := by kernel_rfl
@[go_sem] theorem live_46_0 : C.live 46 0 = some [1, 0] := by kernel_rfl
@[go_sem] theorem live_46_1 : C.live 46 1 = some [0, 3] := by kernel_rfl
@[go_sem] theorem live_46_2 : C.live 46 2 = some [0, 3] := by kernel_rfl
@[go_sem] theorem live_46_3 : C.live 46 3 = some [0, 3] := by kernel_rfl
@[go_sem] theorem live_46_4 : C.live 46 4 = some [0, 3] := by kernel_rfl
@[go_sem] theorem live_46_5 : C.live 46 5 = some [0, 3] := by kernel_rfl
@[go_sem] theorem live_46_6 : C.live 46 6 = some [22, 0, 3] := by kernel_rfl
@[go_sem] theorem live_46_7 : C.live 46 7 = some [22, 0, 3] := by kernel_rfl
@[go_sem] theorem live_46_9 : C.live 46 9 = some [22, 3, 0] := by kernel_rfl
@[go_sem] theorem live_46_12 : C.live 46 12 = some [22, 3, 0] := by kernel_rfl
@[go_sem] theorem live_46_14 : C.live 46 14 = some [3, 22, 0] := by kernel_rfl
@[go_sem] theorem live_46_16 : C.live 46 16 = some [22, 0, 3] := by kernel_rfl
@[go_sem] theorem live_46_18 : C.live 46 18 = some [22, 0, 3] := by kernel_rfl
@[go_sem] theorem live_46_19 : C.live 46 19 = some [0, 3] := by kernel_rfl
@[go_sem] theorem live_46_17 : C.live 46 17 = some [0, 3] := by kernel_rfl
@[go_sem] theorem live_46_15 : C.live 46 15 = some [0] := by kernel_rfl
@[go_sem] theorem live_46_13 : C.live 46 13 = some [0] := by kernel_rfl
@[go_sem] theorem live_46_10 : C.live 46 10 = some [3, 0] := by kernel_rfl
@[go_sem] theorem live_46_11 : C.live 46 11 = some [0] := by kernel_rfl
@[go_sem] theorem live_46_8 : C.live 46 8 = some [0, 3] := by kernel_rfl
@[go_sem] theorem esc_47 : C.esc 47 = [] := by kernel_rfl
@[go_sem] theorem live_47_0 : C.live 47 0 = some [0] := by kernel_rfl
@[go_sem] theorem live_47_1 : C.live 47 1 = some [1] := by kernel_rfl
@[go_sem] theorem esc_48 : C.esc 48 = [] := by kernel_rfl
@[go_sem] theorem live_48_0 : C.live 48 0 = some [1, 2, 0] := by kernel_rfl
@[go_sem] theorem live_48_1 : C.live 48 1 = some [4, 2, 0] := by kernel_rfl
@[go_sem] theorem live_48_2 : C.live 48 2 = some [0] := by kernel_rfl
@[go_sem] theorem live_48_3 : C.live 48 3 = some [0, 2, 4] := by kernel_rfl
@[go_sem] theorem live_48_4 : C.live 48 4 = some [4, 0] := by kernel_rfl
@[go_sem] theorem live_48_5 : C.live 48 5 = some [0, 7, 4] := by kernel_rfl
@[go_sem] theorem live_48_7 : C.live 48 7 = some [0, 7, 4] := by kernel_rfl
@[go_sem] theorem live_48_6 : C.live 48 6 = some [7, 4, 0] := by kernel_rfl
@[go_sem] theorem live_48_8 : C.live 48 8 = some [0] := by kernel_rfl
@[go_sem] theorem esc_49 : C.esc 49 = [21] := by kernel_rfl
@[go_sem] theorem live_49_0 : C.live 49 0 = some [0] := by kernel_rfl
@[go_sem] theorem live_49_1 : C.live 49 1 = some [1] := by kernel_rfl
@[go_sem] theorem live_49_2 : C.live 49 2 = some [1, 4] := by kernel_rfl
@[go_sem] theorem live_49_3 : C.live 49 3 = some [4] := by kernel_rfl
@[go_sem] theorem live_49_4 : C.live 49 4 = some [1] := by kernel_rfl
@[go_sem] theorem live_49_5 : C.live 49 5 = some [5, 1] := by kernel_rfl
@[go_sem] theorem live_49_6 : C.live 49 6 = some [24, 1, 23, 5, 25] := by kernel_rfl
@[go_sem] theorem live_49_7 : C.live 49 7 = some [24, 1, 23, 5, 25] := by kernel_rfl
@[go_sem] theorem live_49_8 : C.live 49 8 = some [24, 1, 23, 5, 25, 7] := by kernel_rfl
@[go_sem] theorem live_49_9 : C.live 49 9 = some [] := by kernel_rfl
@[go_sem] theorem live_49_10 : C.live 49 10 = some [7, 25, 5, 23, 1, 24] := by kernel_rfl
@[go_sem] theorem live_49_11 : C.live 49 11 = some [25, 5, 23, 1, 24] := by kernel_rfl
@[go_sem] theorem live_49_12 : C.live 49 12 = some [1, 5] := by kernel_rfl
@[go_sem] theorem live_49_13 : C.live 49 13 = some [8, 1, 5] := by kernel_rfl
@[go_sem] theorem live_49_14 : C.live 49 14 = some [42, 5, 1, 41, 8, 43] := by kernel_rfl
@[go_sem] theorem live_49_15 : C.live 49 15 = some [42, 5, 1, 41, 8, 43] := by kernel_rfl
@[go_sem] theorem live_49_16 : C.live 49 16 = some [42, 5, 1, 41, 8, 43, 10] := by kernel_rfl
@[go_sem] theorem live_49_17 : C.live 49 17 = some [] := by kernel_rfl
@[go_sem] theorem live_49_18 : C.live 49 18 = some [10, 43, 8, 41, 1, 5, 42] := by kernel_rfl
@[go_sem] theorem live_49_19 : C.live 49 19 = some [43, 8, 41, 1, 5, 42] := by kernel_rfl
@[go_sem] theorem live_49_20 : C.live 49 20 = some [1, 5] := by kernel_rfl
@[go_sem] theorem live_49_21 : C.live 49 21 = some [5, 11] := by kernel_rfl
@[go_sem] theorem esc_50 : C.esc 50 = [3] := by kernel_rfl
@[go_sem] theorem live_50_0 : C.live 50 0 = some [0] := by kernel_rfl
@[go_sem] theorem live_50_1 : C.live 50 1 = some [1] := by kernel_rfl
@[go_sem] theorem live_50_2 : C.live 50 2 = some [3, 1] := by kernel_rfl
@[go_sem] theorem live_50_3 : C.live 50 3 = some [9, 3, 7, 1, 8] := by kernel_rfl
@[go_sem] theorem live_50_4 : C.live 50 4 = some [9, 3, 7, 1, 8] := by kernel_rfl
@[go_sem] theorem live_50_5 : C.live 50 5 = some [5, 9, 3, 7, 1, 8] := by kernel_rfl
@[go_sem] theorem live_50_6 : C.live 50 6 = some [9, 3, 7, 1, 8] := by kernel_rfl
@[go_sem] theorem live_50_7 : C.live 50 7 = some [1, 3] := by kernel_rfl
@[go_sem] theorem live_50_8 : C.live 50 8 = some [3] := by kernel_rfl
@[go_sem] theorem esc_51 : C.esc 51 = [] := by kernel_rfl
@[go_sem] theorem live_51_0 : C.live 51 0 = some [0, 1] := by kernel_rfl
@[go_sem] theorem live_51_1 : C.live 51 1 = some [0, 1] := by kernel_rfl
@[go_sem] theorem live_51_2 : C.live 51 2 = some [7, 1, 0, 8] := by kernel_rfl
@[go_sem] theorem live_51_3 : C.live 51 3 = some [7, 1, 0, 8] := by kernel_rfl
@[go_sem] theorem live_51_4 : C.live 51 4 = some [7, 1, 0, 8, 5] := by kernel_rfl
@[go_sem] theorem live_51_5 : C.live 51 5 = some [5] := by kernel_rfl
@[go_sem] theorem live_51_6 : C.live 51 6 = some [8, 0, 1, 7] := by kernel_rfl
@[go_sem] theorem live_51_7 : C.live 51 7 = some [] := by kernel_rfl
@[go_sem] theorem esc_52 : C.esc 52 = [] := by kernel_rfl
@[go_sem] theorem live_52_0 : C.live 52 0 = some [0, 1] := by kernel_rfl
@[go_sem] theorem live_52_1 : C.live 52 1 = some [2, 1] := by kernel_rfl
@[go_sem] theorem live_52_2 : C.live 52 2 = some [2, 5, 1] := by kernel_rfl
@[go_sem] theorem live_52_4 : C.live 52 4 = some [1, 5, 2] := by kernel_rfl
@[go_sem] theorem live_52_6 : C.live 52 6 = some [2, 5, 1] := by kernel_rfl
@[go_sem] theorem live_52_8 : C.live 52 8 = some [1] := by kernel_rfl
@[go_sem] theorem live_52_9 : C.live 52 9 = some [] := by kernel_rfl
@[go_sem] theorem live_52_7 : C.live 52 7 = some [] := by kernel_rfl
@[go_sem] theorem live_52_5 : C.live 52 5 = some [] := by kernel_rfl
@[go_sem] theorem live_52_3 : C.live 52 3 = some [] := by kernel_rfl
@[go_sem] theorem live_52_10 : C.live 52 10 = some [] := by kernel_rfl
@[go_sem] theorem esc_53 : C.esc 53 = [] := by kernel_rfl
@[go_sem] theorem live_53_0 : C.live 53 0 = some [0, 1] := by kernel_rfl
@[go_sem] theorem live_53_1 : C.live 53 1 = some [2, 1] := by kernel_rfl
@[go_sem] theorem live_53_2 : C.live 53 2 = some [] := by kernel_rfl
@[go_sem] theorem live_53_3 : C.live 53 3 = some [1, 2] := by kernel_rfl
@[go_sem] theorem live_53_4 : C.live 53 4 = some [] := by kernel_rfl
@[go_sem] theorem live_53_5 : C.live 53 5 = some [2, 1] := by kernel_rfl
@[go_sem] theorem live_53_6 : C.live 53 6 = some [] := by kernel_rfl
@[go_sem] theorem live_53_7 : C.live 53 7 = some [1] := by kernel_rfl
@[go_sem] theorem live_53_8 : C.live 53 8 = some [] := by kernel_rfl
@[go_sem] theorem live_53_9 : C.live 53 9 = some [] := by kernel_rfl
@[go_sem] theorem esc_54 : C.esc 54 = [] := by kernel_rfl
@[go_sem] theorem live_54_0 : C.live 54 0 = some [0] := by kernel_rfl
@[go_sem] theorem live_54_1 : C.live 54 1 = some [1, 2, 3, 4] := by kernel_rfl
@[go_sem] theorem live_54_2 : C.live 54 2 = some [2, 3, 4] := by kernel_rfl
@[go_sem] theorem live_54_3 : C.live 54 3 = some [1, 2, 3, 4] := by kernel_rfl
@[go_sem] theorem live_54_4 : C.live 54 4 = some [1, 2, 3, 4] := by kernel_rfl
@[go_sem] theorem live_54_5 : C.live 54 5 = some [15, 13, 2, 3, 4, 14] := by kernel_rfl
@[go_sem] theorem live_54_6 : C.live 54 6 = some [15, 13, 2, 3, 4, 14] := by kernel_rfl
@[go_sem] theorem live_54_7 : C.live 54 7 = some [7, 15, 13, 2, 3, 4, 14] := by kernel_rfl
@[go_sem] theorem live_54_12 : C.live 54 12 = some [15, 13, 2, 3, 4, 14] := by kernel_rfl
@[go_sem] theorem live_54_13 : C.live 54 13 = some [2, 3, 4] := by kernel_rfl
@[go_sem] theorem esc_55 : C.esc 55 = [] := by kernel_rfl
@[go_sem] theorem live_55_0 : C.live 55 0 = some [0, 1] := by kernel_rfl
@[go_sem] theorem live_55_1 : C.live 55 1 = some [2, 3, 4] := by kernel_rfl
@[go_sem] theorem live_55_2 : C.live 55 2 = some [6, 2, 3, 4] := by kernel_rfl
@[go_sem] theorem live_55_3 : C.live 55 3 = some [6, 2, 3, 4] := by kernel_rfl
@[go_sem] theorem live_55_4 : C.live 55 4 = some [5, 6, 2, 3, 4] := by kernel_rfl
@[go_sem] theorem live_55_5 : C.live 55 5 = some [6, 2, 3, 4] := by kernel_rfl
@[go_sem] theorem live_55_6 : C.live 55 6 = some [2, 4] := by kernel_rfl
@[go_sem] theorem esc_56 : C.esc 56 = [] := by kernel_rfl
@[go_sem] theorem live_56_0 : C.live 56 0 = some [0] := by kernel_rfl
@[go_sem] theorem live_56_1 : C.live 56 1 = some [1, 2] := by kernel_rfl
@[go_sem] theorem live_56_2 : C.live 56 2 = some [1, 3, 2] := by kernel_rfl
@[go_sem] theorem live_56_3 : C.live 56 3 = some [1, 3, 2] := by kernel_rfl
@[go_sem] theorem live_56_4 : C.live 56 4 = some [1, 3, 2] := by kernel_rfl
@[go_sem] theorem live_56_5 : C.live 56 5 = some [1, 3, 2] := by kernel_rfl
@[go_sem] theorem live_56_6 : C.live 56 6 = some [13, 1, 3, 2] := by kernel_rfl
@[go_sem] theorem live_56_9 : C.live 56 9 = some [13, 1, 3, 2] := by kernel_rfl
@[go_sem] theorem live_56_11 : C.live 56 11 = some [1, 13, 3, 2] := by kernel_rfl
@[go_sem] theorem live_56_13 : C.live 56 13 = some [13, 3, 1, 2] := by kernel_rfl
@[go_sem] theorem live_56_15 : C.live 56 15 = some [13, 3, 1, 2] := by kernel_rfl
@[go_sem] theorem live_56_16 : C.live 56 16 = some [3, 1, 2] := by kernel_rfl
@[go_sem] theorem live_56_17 : C.live 56 17 = some [3, 1, 2] := by kernel_rfl
@[go_sem] theorem live_56_18 : C.live 56 18 = some [3, 1, 2] := by kernel_rfl
@[go_sem] theorem live_56_14 : C.live 56 14 = some [3, 1, 2] := by kernel_rfl
@[go_sem] theorem live_56_12 : C.live 56 12 = some [3, 2] := by kernel_rfl
@[go_sem] theorem live_56_10 : C.live 56 10 = some [3, 2] := by kernel_rfl
@[go_sem] theorem live_56_7 : C.live 56 7 = some [1, 3, 2] := by kernel_rfl
@[go_sem] theorem live_56_8 : C.live 56 8 = some [3, 2] := by kernel_rfl
@[go_sem] theorem live_56_19 : C.live 56 19 = some [3, 2] := by kernel_rfl
@[go_sem] theorem esc_57 : C.esc 57 = [] := by kernel_rfl
@[go_sem] theorem live_57_0 : C.live 57 0 = some [1, 0] := by kernel_rfl
@[go_sem] theorem live_57_1 : C.live 57 1 = some [3, 0] := by kernel_rfl
@[go_sem] theorem live_57_2 : C.live 57 2 = some [3, 0, 4] := by kernel_rfl
@[go_sem] theorem live_57_3 : C.live 57 3 = some [3, 0, 4] := by kernel_rfl
@[go_sem] theorem live_57_4 : C.live 57 4 = some [0, 4] := by kernel_rfl
@[go_sem] theorem live_57_5 : C.live 57 5 = some [4, 3, 0] := by kernel_rfl
@[go_sem] theorem live_57_6 : C.live 57 6 = some [4, 3, 0, 5] := by kernel_rfl
@[go_sem] theorem live_57_7 : C.live 57 7 = some [3, 0, 5] := by kernel_rfl
@[go_sem] theorem live_57_8 : C.live 57 8 = some [0, 5] := by kernel_rfl
@[go_sem] theorem esc_58 : C.esc 58 = [] := by kernel_rfl
@[go_sem] theorem live_58_0 : C.live 58 0 = some [1, 0] := by kernel_rfl
@[go_sem] theorem live_58_1 : C.live 58 1 = some [3, 0] := by kernel_rfl
@[go_sem] theorem live_58_2 : C.live 58 2 = some [3, 4, 0] := by kernel_rfl
@[go_sem] theorem live_58_3 : C.live 58 3 = some [3, 4, 0] := by kernel_rfl
@[go_sem] theorem live_58_4 : C.live 58 4 = some [3, 4, 0] := by kernel_rfl
@[go_sem] theorem live_58_5 : C.live 58 5 = some [3, 4, 0] := by kernel_rfl
@[go_sem] theorem live_58_6 : C.live 58 6 = some [3, 4, 0] := by kernel_rfl
@[go_sem] theorem live_58_7 : C.live 58 7 = some [3, 4, 5, 0] := by kernel_rfl
@[go_sem] theorem live_58_8 : C.live 58 8 = some [3, 4, 5, 0] := by kernel_rfl
@[go_sem] theorem live_58_9 : C.live 58 9 = some [3, 4, 5, 0] := by kernel_rfl
@[go_sem] theorem live_58_10 : C.live 58 10 = some [3, 4, 5, 0] := by kernel_rfl
@[go_sem] theorem live_58_11 : C.live 58 11 = some [3, 4, 5, 0, 6] := by kernel_rfl
@[go_sem] theorem live_58_12 : C.live 58 12 = some [3, 4, 5, 0, 6] := by kernel_rfl
@[go_sem] theorem live_58_13 : C.live 58 13 = some [4, 5, 0, 6] := by kernel_rfl
@[go_sem] theorem live_58_14 : C.live 58 14 = some [4, 5, 0, 6] := by kernel_rfl
@[go_sem] theorem live_58_15 : C.live 58 15 = some [4, 5, 0, 6] := by kernel_rfl
@[go_sem] theorem live_58_16 : C.live 58 16 = some [4, 5, 0, 6] := by kernel_rfl
@[go_sem] theorem live_58_17 : C.live 58 17 = some [5, 0, 6] := by kernel_rfl
@[go_sem] theorem live_58_18 : C.live 58 18 = some [0, 6] := by kernel_rfl
@[go_sem] theorem esc_59 : C.esc 59 = [3] := by kernel_rfl
@[go_sem] theorem live_59_0 : C.live 59 0 = some [0] := by kernel_rfl
@[go_sem] theorem live_59_1 : C.live 59 1 = some [1] := by kernel_rfl
@[go_sem] theorem live_59_2 : C.live 59 2 = some [] := by kernel_rfl
@[go_sem] theorem live_59_3 : C.live 59 3 = some [1] := by kernel_rfl
@[go_sem] theorem live_59_4 : C.live 59 4 = some [1, 3] := by kernel_rfl
@[go_sem] theorem live_59_5 : C.live 59 5 = some [3] := by kernel_rfl
@[go_sem] theorem live_59_6 : C.live 59 6 = some [1, 3] := by kernel_rfl
@[go_sem] theorem live_59_7 : C.live 59 7 = some [4, 3] := by kernel_rfl
@[go_sem] theorem live_59_8 : C.live 59 8 = some [] := by kernel_rfl
@[go_sem] theorem live_59_9 : C.live 59 9 = some [3] := by kernel_rfl
@[go_sem] theorem esc_60 : C.esc 60 = [] := by kernel_rfl
@[go_sem] theorem live_60_0 : C.live 60 0 = some [0, 1, 2] := by kernel_rfl
@[go_sem] theorem live_60_1 : C.live 60 1 = some [0, 1, 2] := by kernel_rfl
@[go_sem] theorem esc_61 : C.esc 61 = [] := by kernel_rfl
@[go_sem] theorem live_61_0 : C.live 61 0 = some [0, 1] := by kernel_rfl
@[go_sem] theorem live_61_1 : C.live 61 1 = some [0, 1] := by kernel_rfl
@[go_sem] theorem live_61_2 : C.live 61 2 = some [11, 1, 10, 0, 12] := by kernel_rfl
@[go_sem] theorem live_61_3 : C.live 61 3 = some [11, 1, 10, 0, 12] := by kernel_rfl
@[go_sem] theorem live_61_4 : C.live 61 4 = some [6, 11, 1, 10, 0, 12] := by kernel_rfl
@[go_sem] theorem live_61_5 : C.live 61 5 = some [11, 1, 10, 0, 12, 7] := by kernel_rfl
@[go_sem] theorem live_61_6 : C.live 61 6 = some [7] := by kernel_rfl
@[go_sem] theorem live_61_7 : C.live 61 7 = some [12, 0, 10, 1, 11] := by kernel_rfl
@[go_sem] theorem live_61_8 : C.live 61 8 = some [1, 0] := by kernel_rfl
@[go_sem] theorem live_61_9 : C.live 61 9 = some [25, 0, 23, 24] := by kernel_rfl
@[go_sem] theorem live_61_10 : C.live 61 10 = some [25, 0, 23, 24] := by kernel_rfl
@[go_sem] theorem live_61_11 : C.live 61 11 = some [9, 25, 0, 23, 24] := by kernel_rfl
@[go_sem] theorem live_61_12 : C.live 61 12 = some [9, 25, 0, 23, 24] := by kernel_rfl
@[go_sem] theorem live_61_13 : C.live 61 13 = some [25, 0, 23, 24] := by kernel_rfl
@[go_sem] theorem live_61_14 : C.live 61 14 = some [] := by kernel_rfl
@[go_sem] theorem esc_62 : C.esc 62 = [11] := by kernel_rfl
@[go_sem] theorem live_62_0 : C.live 62 0 = some [0, 1, 2] := by kernel_rfl
@[go_sem] theorem live_62_1 : C.live 62 1 = some [1, 2, 3] := by kernel_rfl
@[go_sem] theorem live_62_2 : C.live 62 2 = some [3, 7] := by kernel_rfl
@[go_sem] theorem live_62_3 : C.live 62 3 = some [7] := by kernel_rfl
@[go_sem] theorem esc_63 : C.esc 63 = [] := by kernel_rfl
@[go_sem] theorem live_63_0 : C.live 63 0 = some [0, 2] := by kernel_rfl
@[go_sem] theorem live_63_1 : C.live 63 1 = some [3, 2] := by kernel_rfl
@[go_sem] theorem live_63_2 : C.live 63 2 = some [3, 2] := by kernel_rfl
@[go_sem] theorem esc_64 : C.esc 64 = [] := by kernel_rfl
@[go_sem] theorem live_64_0 : C.live 64 0 = some [0] := by kernel_rfl
@[go_sem] theorem esc_65 : C.esc 65 = [] := by kernel_rfl
@[go_sem] theorem live_65_0 : C.live 65 0 = some [0] := by kernel_rfl
@[go_sem] theorem live_65_1 : C.live 65 1 = some [0] := by kernel_rfl
@[go_sem] theorem live_65_3 : C.live 65 3 = some [0] := by kernel_rfl
@[go_sem] theorem live_65_5 : C.live 65 5 = some [0] := by kernel_rfl
@[go_sem] theorem live_65_6 : C.live 65 6 = some [] := by kernel_rfl
@[go_sem] theorem live_65_4 : C.live 65 4 = some [] := by kernel_rfl
@[go_sem] theorem live_65_2 : C.live 65 2 = some [] := by kernel_rfl
@[go_sem] theorem live_65_7 : C.live 65 7 = some [] := by kernel_rfl
@[go_sem] theorem esc_66 : C.esc 66 = [] := by kernel_rfl
@[go_sem] theorem live_66_0 : C.live 66 0 = some [0] := by kernel_rfl
@[go_sem] theorem live_66_1 : C.live 66 1 = some [0] := by kernel_rfl
@[go_sem] theorem esc_67 : C.esc 67 = [] := by kernel_rfl
@[go_sem] theorem live_67_0 : C.live 67 0 = some [0] := by kernel_rfl
@[go_sem] theorem live_67_1 : C.live 67 1 = some [0] := by kernel_rfl
@[go_sem] theorem live_67_2 : C.live 67 2 = some [0, 3] := by kernel_rfl
@[go_sem] theorem live_67_4 : C.live 67 4 = some [0, 3] := by kernel_rfl
@[go_sem] theorem live_67_5 : C.live 67 5 = some [] := by kernel_rfl
@[go_sem] theorem live_67_3 : C.live 67 3 = some [3, 0] := by kernel_rfl
@[go_sem] theorem live_67_6 : C.live 67 6 = some [0] := by kernel_rfl
@[go_sem] theorem esc_68 : C.esc 68 = [] := by kernel_rfl
@[go_sem] theorem live_68_0 : C.live 68 0 = some [0] := by kernel_rfl
@[go_sem] theorem live_68_1 : C.live 68 1 = some [0] := by kernel_rfl
@[go_sem] theorem esc_69 : C.esc 69 = [] := by kernel_rfl
@[go_sem] theorem live_69_0 : C.live 69 0 = some [0] := by kernel_rfl
@[go_sem] theorem live_69_1 : C.live 69 1 = some [0] := by kernel_rfl
@[go_sem] theorem live_69_2 : C.live 69 2 = some [] := by kernel_rfl
@[go_sem] theorem live_69_3 : C.live 69 3 = some [0] := by kernel_rfl
@[go_sem] theorem live_69_4 : C.live 69 4 = some [0, 3] := by kernel_rfl
@[go_sem] theorem live_69_6 : C.live 69 6 = some [0, 3] := by kernel_rfl
@[go_sem] theorem live_69_7 : C.live 69 7 = some [] := by kernel_rfl
@[go_sem] theorem live_69_5 : C.live 69 5 = some [3, 0] := by kernel_rfl
@[go_sem] theorem live_69_8 : C.live 69 8 = some [] := by kernel_rfl
@[go_sem] theorem esc_70 : C.esc 70 = [3] := by kernel_rfl
@[go_sem] theorem live_70_0 : C.live 70 0 = some [0] := by kernel_rfl
@[go_sem] theorem live_70_1 : C.live 70 1 = some [1] := by kernel_rfl
@[go_sem] theorem live_70_2 : C.live 70 2 = some [1, 3] := by kernel_rfl
@[go_sem] theorem live_70_3 : C.live 70 3 = some [3] := by kernel_rfl
@[go_sem] theorem esc_71 : C.esc 71 = [1] := by kernel_rfl
@[go_sem] theorem live_71_0 : C.live 71 0 = some [0] := by kernel_rfl
@[go_sem] theorem live_71_1 : C.live 71 1 = some [1] := by kernel_rfl
@[go_sem] theorem esc_73 : C.esc 73 = [] := by kernel_rfl
@[go_sem] theorem live_73_0 : C.live 73 0 = some [0] := by kernel_rfl
@[go_sem] theorem live_73_1 : C.live 73 1 = some [1] := by kernel_rfl
@[go_sem] theorem live_73_2 : C.live 73 2 = some [3, 1] := by kernel_rfl
@[go_sem] theorem live_73_3 : C.live 73 3 = some [7, 3, 1] := by kernel_rfl
@[go_sem] theorem live_73_4 : C.live 73 4 = some [7, 3, 1] := by kernel_rfl
@[go_sem] theorem live_73_5 : C.live 73 5 = some [7, 3, 1] := by kernel_rfl
@[go_sem] theorem live_73_6 : C.live 73 6 = some [1] := by kernel_rfl
@[go_sem] theorem live_73_7 : C.live 73 7 = some [1, 3] := by kernel_rfl
@[go_sem] theorem live_73_8 : C.live 73 8 = some [3, 15, 13, 14] := by kernel_rfl
@[go_sem] theorem live_73_9 : C.live 73 9 = some [3, 15, 13, 14] := by kernel_rfl
@[go_sem] theorem live_73_10 : C.live 73 10 = some [3, 5, 15, 13, 14] := by kernel_rfl
@[go_sem] theorem live_73_11 : C.live 73 11 = some [15, 3, 13, 14] := by kernel_rfl
@[go_sem] theorem live_73_12 : C.live 73 12 = some [3] := by kernel_rfl
@[go_sem] theorem esc_74 : C.esc 74 = [] := by kernel_rfl
@[go_sem] theorem live_74_0 : C.live 74 0 = some [0, 1] := by kernel_rfl
@[go_sem] theorem live_74_1 : C.live 74 1 = some [2, 3, 4] := by kernel_rfl
@[go_sem] theorem live_74_2 : C.live 74 2 = some [6, 2, 3, 4] := by kernel_rfl
@[go_sem] theorem live_74_3 : C.live 74 3 = some [6, 2, 3, 4] := by kernel_rfl
@[go_sem] theorem live_74_4 : C.live 74 4 = some [5, 6, 2, 3, 4] := by kernel_rfl
@[go_sem] theorem live_74_5 : C.live 74 5 = some [6, 2, 3, 4] := by kernel_rfl
@[go_sem] theorem live_74_6 : C.live 74 6 = some [2, 4] := by kernel_rfl
@[go_sem] theorem esc_75 : C.esc 75 = [] := by kernel_rfl
@[go_sem] theorem live_75_0 : C.live 75 0 = some [0, 1] := by kernel_rfl
@[go_sem] theorem live_75_1 : C.live 75 1 = some [2, 1, 4] := by kernel_rfl
@[go_sem] theorem live_75_2 : C.live 75 2 = some [6, 2, 1, 4] := by kernel_rfl
@[go_sem] theorem live_75_3 : C.live 75 3 = some [6, 2, 1, 4] := by kernel_rfl
@[go_sem] theorem live_75_4 : C.live 75 4 = some [5, 6, 2, 1, 4] := by kernel_rfl
@[go_sem] theorem live_75_5 : C.live 75 5 = some [6, 2, 1, 4] := by kernel_rfl
@[go_sem] theorem live_75_6 : C.live 75 6 = some [2, 4] := by kernel_rfl
@[go_sem] theorem esc_76 : C.esc 76 = [] := by kernel_rfl
@[go_sem] theorem live_76_0 : C.live 76 0 = some [1, 0] := by kernel_rfl
@[go_sem] theorem esc_77 : C.esc 77 = [] := by kernel_rfl
@[go_sem] theorem live_77_0 : C.live 77 0 = some [0] := by kernel_rfl
@[go_sem] theorem live_77_1 : C.live 77 1 = some [0] := by kernel_rfl
@[go_sem] theorem esc_78 : C.esc 78 = [4] := by kernel_rfl
@[go_sem] theorem live_78_0 : C.live 78 0 = some [0] := by kernel_rfl
@[go_sem] theorem live_78_1 : C.live 78 1 = some [0] := by kernel_rfl
@[go_sem] theorem live_78_2 : C.live 78 2 = some [] := by kernel_rfl
@[go_sem] theorem live_78_3 : C.live 78 3 = some [0] := by kernel_rfl
@[go_sem] theorem live_78_4 : C.live 78 4 = some [9, 8, 0, 10] := by kernel_rfl
@[go_sem] theorem live_78_5 : C.live 78 5 = some [9, 8, 0, 10] := by kernel_rfl
@[go_sem] theorem live_78_6 : C.live 78 6 = some [3, 4, 9, 8, 0, 10] := by kernel_rfl
@[go_sem] theorem live_78_8 : C.live 78 8 = some [10, 0, 8, 9, 4, 3] := by kernel_rfl
@[go_sem] theorem live_78_10 : C.live 78 10 = some [3, 4, 9, 8, 0, 10] := by kernel_rfl
@[go_sem] theorem live_78_11 : C.live 78 11 = some [] := by kernel_rfl
@[go_sem] theorem live_78_9 : C.live 78 9 = some [] := by kernel_rfl
@[go_sem] theorem live_78_7 : C.live 78 7 = some [] := by kernel_rfl
@[go_sem] theorem live_78_12 : C.live 78 12 = some [10, 0, 8, 9] := by kernel_rfl
@[go_sem] theorem live_78_13 : C.live 78 13 = some [] := by kernel_rfl
@[go_sem] theorem esc_79 : C.esc 79 = [] := by kernel_rfl
@[go_sem] theorem live_79_0 : C.live 79 0 = some [0, 1, 2] := by kernel_rfl
@[go_sem] theorem live_79_1 : C.live 79 1 = some [3, 1, 2] := by kernel_rfl
@[go_sem] theorem live_79_2 : C.live 79 2 = some [3, 1, 2] := by kernel_rfl
@[go_sem] theorem esc_80 : C.esc 80 = [] := by kernel_rfl
@[go_sem] theorem live_80_0 : C.live 80 0 = some [0, 1] := by kernel_rfl
@[go_sem] theorem live_80_1 : C.live 80 1 = some [1, 2] := by kernel_rfl
@[go_sem] theorem live_80_2 : C.live 80 2 = some [6, 1, 2, 5] := by kernel_rfl
@[go_sem] theorem live_80_3 : C.live 80 3 = some [] := by kernel_rfl
@[go_sem] theorem live_80_4 : C.live 80 4 = some [5, 2, 1] := by kernel_rfl
@[go_sem] theorem live_80_5 : C.live 80 5 = some [] := by kernel_rfl
@[go_sem] theorem live_80_6 : C.live 80 6 = some [1, 2, 5] := by kernel_rfl
@[go_sem] theorem live_80_7 : C.live 80 7 = some [1, 2, 5] := by kernel_rfl
@[go_sem] theorem live_80_8 : C.live 80 8 = some [1, 2, 5, 7] := by kernel_rfl
@[go_sem] theorem live_80_9 : C.live 80 9 = some [7] := by kernel_rfl
@[go_sem] theorem live_80_10 : C.live 80 10 = some [5, 2, 1] := by kernel_rfl
@[go_sem] theorem live_80_11 : C.live 80 11 = some [2, 1] := by kernel_rfl
@[go_sem] theorem live_80_12 : C.live 80 12 = some [1, 8] := by kernel_rfl
@[go_sem] theorem live_80_13 : C.live 80 13 = some [8] := by kernel_rfl
@[go_sem] theorem live_80_14 : C.live 80 14 = some [1] := by kernel_rfl
@[go_sem] theorem live_80_15 : C.live 80 15 = some [] := by kernel_rfl
@[go_sem] theorem live_80_16 : C.live 80 16 = some [] := by kernel_rfl
@[go_sem] theorem esc_81 : C.esc 81 = [] := by kernel_rfl
@[go_sem] theorem live_81_0 : C.live 81 0 = some [1, 0] := by kernel_rfl
@[go_sem] theorem live_81_1 : C.live 81 1 = some [3, 0] := by kernel_rfl
@[go_sem] theorem live_81_2 : C.live 81 2 = some [5, 3, 0, 6, 7] := by kernel_rfl
@[go_sem] theorem live_81_3 : C.live 81 3 = some [7] := by kernel_rfl
@[go_sem] theorem live_81_4 : C.live 81 4 = some [6, 0, 3, 5] := by kernel_rfl
@[go_sem] theorem live_81_5 : C.live 81 5 = some [23, 6, 0, 3, 5] := by kernel_rfl
@[go_sem] theorem live_81_7 : C.live 81 7 = some [6, 23, 5, 3, 0] := by kernel_rfl
@[go_sem] theorem live_81_15 : C.live 81 15 = some [3, 0, 23, 5, 6] := by kernel_rfl
@[go_sem] theorem live_81_18 : C.live 81 18 = some [6, 23, 0, 3, 5] := by kernel_rfl
@[go_sem] theorem live_81_21 : C.live 81 21 = some [3, 0, 23, 6, 5] := by kernel_rfl
@[go_sem] theorem live_81_24 : C.live 81 24 = some [6, 23, 5, 0, 3] := by kernel_rfl
@[go_sem] theorem live_81_31 : C.live 81 31 = some [23, 5, 6, 3, 0] := by kernel_rfl
@[go_sem] theorem live_81_32 : C.live 81 32 = some [5, 6, 3, 0] := by kernel_rfl
@[go_sem] theorem live_81_33 : C.live 81 33 = some [] := by kernel_rfl
@[go_sem] theorem live_81_34 : C.live 81 34 = some [0, 3] := by kernel_rfl
@[go_sem] theorem live_81_35 : C.live 81 35 = some [0, 3] := by kernel_rfl
@[go_sem] theorem live_81_36 : C.live 81 36 = some [0, 3] := by kernel_rfl
@[go_sem] theorem live_81_37 : C.live 81 37 = some [0, 3, 11] := by kernel_rfl
@[go_sem] theorem live_81_38 : C.live 81 38 = some [11] := by kernel_rfl
@[go_sem] theorem live_81_25 : C.live 81 25 = some [5, 0, 3] := by kernel_rfl
@[go_sem] theorem live_81_26 : C.live 81 26 = some [] := by kernel_rfl
@[go_sem] theorem live_81_27 : C.live 81 27 = some [3, 0] := by kernel_rfl
@[go_sem] theorem live_81_28 : C.live 81 28 = some [3, 0, 10] := by kernel_rfl
@[go_sem] theorem live_81_29 : C.live 81 29 = some [10] := by kernel_rfl
@[go_sem] theorem live_81_30 : C.live 81 30 = some [0, 3] := by kernel_rfl
@[go_sem] theorem live_81_22 : C.live 81 22 = some [5] := by kernel_rfl
@[go_sem] theorem live_81_23 : C.live 81 23 = some [] := by kernel_rfl
@[go_sem] theorem live_81_19 : C.live 81 19 = some [5] := by kernel_rfl
@[go_sem] theorem live_81_20 : C.live 81 20 = some [] := by kernel_rfl
@[go_sem] theorem live_81_16 : C.live 81 16 = some [5, 6] := by kernel_rfl
@[go_sem] theorem live_81_17 : C.live 81 17 = some [] := by kernel_rfl
@[go_sem] theorem live_81_8 : C.live 81 8 = some [5, 3, 0] := by kernel_rfl
@[go_sem] theorem live_81_9 : C.live 81 9 = some [9, 8, 5, 3, 0] := by kernel_rfl
@[go_sem] theorem live_81_11 : C.live 81 11 = some [0, 3, 5, 8] := by kernel_rfl
@[go_sem] theorem live_81_13 : C.live 81 13 = some [8, 5] := by kernel_rfl
@[go_sem] theorem live_81_14 : C.live 81 14 = some [] := by kernel_rfl
@[go_sem] theorem live_81_12 : C.live 81 12 = some [] := by kernel_rfl
@[go_sem] theorem live_81_10 : C.live 81 10 = some [] := by kernel_rfl
@[go_sem] theorem live_81_6 : C.live 81 6 = some [0, 3, 5] := by kernel_rfl
@[go_sem] theorem live_81_39 : C.live 81 39 = some [] := by kernel_rfl
@[go_sem] theorem esc_82 : C.esc 82 = [] := by kernel_rfl
@[go_sem] theorem live_82_0 : C.live 82 0 = some [1, 0, 2] := by kernel_rfl
@[go_sem] theorem live_82_1 : C.live 82 1 = some [9, 8, 2, 0, 10] := by kernel_rfl
@[go_sem] theorem live_82_2 : C.live 82 2 = some [9, 8, 2, 0, 10] := by kernel_rfl
@[go_sem] theorem live_82_3 : C.live 82 3 = some [9, 8, 2, 0, 10, 7] := by kernel_rfl
@[go_sem] theorem live_82_4 : C.live 82 4 = some [7, 10, 0, 2, 8, 9] := by kernel_rfl
@[go_sem] theorem live_82_5 : C.live 82 5 = some [7, 10, 0, 2, 8, 9] := by kernel_rfl
@[go_sem] theorem live_82_6 : C.live 82 6 = some [7, 10, 0, 2, 8, 9] := by kernel_rfl
@[go_sem] theorem live_82_7 : C.live 82 7 = some [7, 10, 0, 2, 8, 9] := by kernel_rfl
@[go_sem] theorem live_82_8 : C.live 82 8 = some [7, 10, 0, 2, 8, 9] := by kernel_rfl
@[go_sem] theorem live_82_9 : C.live 82 9 = some [7, 10, 0, 2, 8, 9] := by kernel_rfl
@[go_sem] theorem live_82_10 : C.live 82 10 = some [10, 0, 2, 8, 9] := by kernel_rfl
@[go_sem] theorem esc_83 : C.esc 83 = [] := by kernel_rfl
@[go_sem] theorem live_83_0 : C.live 83 0 = some [0] := by kernel_rfl
@[go_sem] theorem live_83_1 : C.live 83 1 = some [0] := by kernel_rfl
@[go_sem] theorem esc_84 : C.esc 84 = [] := by kernel_rfl
@[go_sem] theorem live_84_0 : C.live 84 0 = some [0] := by kernel_rfl
@[go_sem] theorem live_84_1 : C.live 84 1 = some [0] := by kernel_rfl
@[go_sem] theorem live_84_2 : C.live 84 2 = some [6, 0] := by kernel_rfl
@[go_sem] theorem live_84_3 : C.live 84 3 = some [7, 6, 0] := by kernel_rfl
@[go_sem] theorem live_84_4 : C.live 84 4 = some [4, 6, 0, 3] := by kernel_rfl
@[go_sem] theorem live_84_5 : C.live 84 5 = some [3] := by kernel_rfl
@[go_sem] theorem live_84_6 : C.live 84 6 = some [0] := by kernel_rfl
@[go_sem] theorem esc_85 : C.esc 85 = [] := by kernel_rfl
@[go_sem] theorem live_85_0 : C.live 85 0 = some [0] := by kernel_rfl
@[go_sem] theorem live_85_1 : C.live 85 1 = some [0] := by kernel_rfl
@[go_sem] theorem live_85_2 : C.live 85 2 = some [3] := by kernel_rfl
@[go_sem] theorem live_85_3 : C.live 85 3 = some [3] := by kernel_rfl
@[go_sem] theorem live_85_4 : C.live 85 4 = some [3] := by kernel_rfl
@[go_sem] theorem live_85_5 : C.live 85 5 = some [3] := by kernel_rfl
@[go_sem] theorem live_85_6 : C.live 85 6 = some [3] := by kernel_rfl
@[go_sem] theorem live_85_7 : C.live 85 7 = some [3] := by kernel_rfl
@[go_sem] theorem live_85_8 : C.live 85 8 = some [3] := by kernel_rfl
@[go_sem] theorem live_85_9 : C.live 85 9 = some [3] := by kernel_rfl
@[go_sem] theorem live_85_10 : C.live 85 10 = some [3] := by kernel_rfl
@[go_sem] theorem live_85_11 : C.live 85 11 = some [3] := by kernel_rfl
@[go_sem] theorem live_85_12 : C.live 85 12 = some [3] := by kernel_rfl
@[go_sem] theorem live_85_13 : C.live 85 13 = some [3] := by kernel_rfl
@[go_sem] theorem live_85_14 : C.live 85 14 = some [3] := by kernel_rfl
@[go_sem] theorem live_85_15 : C.live 85 15 = some [3] := by kernel_rfl
@[go_sem] theorem live_85_16 : C.live 85 16 = some [3] := by kernel_rfl
@[go_sem] theorem live_85_17 : C.live 85 17 = some [3] := by kernel_rfl
@[go_sem] theorem live_85_18 : C.live 85 18 = some [3] := by kernel_rfl
@[go_sem] theorem live_85_19 : C.live 85 19 = some [3] := by kernel_rfl
@[go_sem] theorem live_85_20 : C.live 85 20 = some [3] := by kernel_rfl
@[go_sem] theorem live_85_21 : C.live 85 21 = some [3] := by kernel_rfl
@[go_sem] theorem live_85_22 : C.live 85 22 = some [3] := by kernel_rfl
@[go_sem] theorem live_85_23 : C.live 85 23 = some [3] := by kernel_rfl
@[go_sem] theorem live_85_24 : C.live 85 24 = some [3] := by kernel_rfl
@[go_sem] theorem live_85_25 : C.live 85 25 = some [3] := by kernel_rfl
@[go_sem] theorem live_85_26 : C.live 85 26 = some [3] := by kernel_rfl
@[go_sem] theorem live_85_27 : C.live 85 27 = some [] := by kernel_rfl
@[go_sem] theorem live_85_28 : C.live 85 28 = some [] := by kernel_rfl
@[go_sem] theorem esc_86 : C.esc 86 = [] := by kernel_rfl
@[go_sem] theorem live_86_0 : C.live 86 0 = some [0] := by kernel_rfl
@[go_sem] theorem live_86_1 : C.live 86 1 = some [0] := by kernel_rfl
@[go_sem] theorem esc_87 : C.esc 87 = [] := by kernel_rfl
@[go_sem] theorem live_87_0 : C.live 87 0 = some [1, 0] := by kernel_rfl
@[go_sem] theorem live_87_1 : C.live 87 1 = some [1, 0] := by kernel_rfl
@[go_sem] theorem live_87_2 : C.live 87 2 = some [1, 0] := by kernel_rfl
@[go_sem] theorem live_87_3 : C.live 87 3 = some [1] := by kernel_rfl
@[go_sem] theorem esc_88 : C.esc 88 = [] := by kernel_rfl
@[go_sem] theorem live_88_0 : C.live 88 0 = some [0] := by kernel_rfl
@[go_sem] theorem live_88_1 : C.live 88 1 = some [0] := by kernel_rfl
@[go_sem] theorem esc_89 : C.esc 89 = [] := by kernel_rfl
@[go_sem] theorem live_89_0 : C.live 89 0 = some [0] := by kernel_rfl
@[go_sem] theorem esc_90 : C.esc 90 = [] := by kernel_rfl
@[go_sem] theorem live_90_0 : C.live 90 0 = some [0, 1] := by kernel_rfl
@[go_sem] theorem live_90_1 : C.live 90 1 = some [2, 1] := by kernel_rfl
@[go_sem] theorem esc_91 : C.esc 91 = [] := by kernel_rfl
@[go_sem] theorem live_91_0 : C.live 91 0 = some [0] := by kernel_rfl
@[go_sem] theorem live_91_1 : C.live 91 1 = some [1, 2] := by kernel_rfl
@[go_sem] theorem live_91_2 : C.live 91 2 = some [3, 1, 2] := by kernel_rfl
@[go_sem] theorem live_91_3 : C.live 91 3 = some [3, 1, 2] := by kernel_rfl
@[go_sem] theorem live_91_4 : C.live 91 4 = some [11, 1, 9, 2, 10] := by kernel_rfl
@[go_sem] theorem live_91_5 : C.live 91 5 = some [11, 1, 9, 2, 10] := by kernel_rfl
@[go_sem] theorem live_91_6 : C.live 91 6 = some [5, 11, 1, 9, 2, 10] := by kernel_rfl
@[go_sem] theorem live_91_7 : C.live 91 7 = some [11, 1, 9, 2, 10] := by kernel_rfl
@[go_sem] theorem live_91_8 : C.live 91 8 = some [1, 2] := by kernel_rfl
@[go_sem] theorem esc_92 : C.esc 92 = [] := by kernel_rfl
@[go_sem] theorem live_92_0 : C.live 92 0 = some [1, 0] := by kernel_rfl
@[go_sem] theorem esc_93 : C.esc 93 = [] := by kernel_rfl
@[go_sem] theorem live_93_0 : C.live 93 0 = some [0, 1] := by kernel_rfl
@[go_sem] theorem live_93_1 : C.live 93 1 = some [1, 2] := by kernel_rfl
@[go_sem] theorem live_93_2 : C.live 93 2 = some [] := by kernel_rfl
@[go_sem] theorem live_93_3 : C.live 93 3 = some [2, 1] := by kernel_rfl
@[go_sem] theorem live_93_4 : C.live 93 4 = some [13, 12, 1, 14] := by kernel_rfl
@[go_sem] theorem live_93_5 : C.live 93 5 = some [13, 12, 1, 14] := by kernel_rfl
@[go_sem] theorem live_93_6 : C.live 93 6 = some [6, 13, 12, 1, 14] := by kernel_rfl
@[go_sem] theorem live_93_7 : C.live 93 7 = some [] := by kernel_rfl
@[go_sem] theorem live_93_8 : C.live 93 8 = some [14, 1, 12, 13] := by kernel_rfl
@[go_sem] theorem live_93_9 : C.live 93 9 = some [] := by kernel_rfl
@[go_sem] theorem esc_94 : C.esc 94 = [] := by kernel_rfl
@[go_sem] theorem live_94_0 : C.live 94 0 = some [0, 1] := by kernel_rfl
@[go_sem] theorem live_94_1 : C.live 94 1 = some [0, 1] := by kernel_rfl
@[go_sem] theorem esc_95 : C.esc 95 = [] := by kernel_rfl
@[go_sem] theorem live_95_0 : C.live 95 0 = some [0, 1] := by kernel_rfl
@[go_sem] theorem live_95_1 : C.live 95 1 = some [2, 1] := by kernel_rfl
@[go_sem] theorem esc_96 : C.esc 96 = [] := by kernel_rfl
@[go_sem] theorem live_96_0 : C.live 96 0 = some [0] := by kernel_rfl
@[go_sem] theorem live_96_1 : C.live 96 1 = some [0, 2] := by kernel_rfl
@[go_sem] theorem live_96_2 : C.live 96 2 = some [4, 2] := by kernel_rfl
@[go_sem] theorem live_96_3 : C.live 96 3 = some [4, 2] := by kernel_rfl
@[go_sem] theorem live_96_5 : C.live 96 5 = some [4, 2] := by kernel_rfl
@[go_sem] theorem live_96_7 : C.live 96 7 = some [4, 2] := by kernel_rfl
@[go_sem] theorem live_96_8 : C.live 96 8 = some [4, 2] := by kernel_rfl
@[go_sem] theorem live_96_10 : C.live 96 10 = some [4, 2] := by kernel_rfl
@[go_sem] theorem live_96_12 : C.live 96 12 = some [4, 2] := by kernel_rfl
@[go_sem] theorem live_96_14 : C.live 96 14 = some [4, 2] := by kernel_rfl
@[go_sem] theorem live_96_15 : C.live 96 15 = some [2] := by kernel_rfl
@[go_sem] theorem live_96_13 : C.live 96 13 = some [2] := by kernel_rfl
@[go_sem] theorem live_96_11 : C.live 96 11 = some [2] := by kernel_rfl
@[go_sem] theorem live_96_9 : C.live 96 9 = some [2] := by kernel_rfl
@[go_sem] theorem live_96_6 : C.live 96 6 = some [2] := by kernel_rfl
@[go_sem] theorem live_96_4 : C.live 96 4 = some [2] := by kernel_rfl
@[go_sem] theorem live_96_16 : C.live 96 16 = some [2] := by kernel_rfl
@[go_sem] theorem esc_97 : C.esc 97 = [] := by kernel_rfl
@[go_sem] theorem live_97_0 : C.live 97 0 = some [0, 1] := by kernel_rfl
@[go_sem] theorem live_97_1 : C.live 97 1 = some [3, 2] := by kernel_rfl
@[go_sem] theorem live_97_2 : C.live 97 2 = some [] := by kernel_rfl
@[go_sem] theorem live_97_3 : C.live 97 3 = some [2] := by kernel_rfl
@[go_sem] theorem live_97_4 : C.live 97 4 = some [68, 2] := by kernel_rfl
@[go_sem] theorem live_97_6 : C.live 97 6 = some [68, 2] := by kernel_rfl
@[go_sem] theorem live_97_7 : C.live 97 7 = some [2] := by kernel_rfl
@[go_sem] theorem live_97_5 : C.live 97 5 = some [2] := by kernel_rfl
@[go_sem] theorem live_97_8 : C.live 97 8 = some [] := by kernel_rfl
@[go_sem] theorem esc_98 : C.esc 98 = [] := by kernel_rfl
@[go_sem] theorem live_98_0 : C.live 98 0 = some [1, 0] := by kernel_rfl
@[go_sem] theorem live_98_1 : C.live 98 1 = some [0, 3, 5] := by kernel_rfl
@[go_sem] theorem live_98_2 : C.live 98 2 = some [] := by kernel_rfl
@[go_sem] theorem live_98_3 : C.live 98 3 = some [5, 3, 0] := by kernel_rfl
@[go_sem] theorem live_98_4 : C.live 98 4 = some [6, 5, 3, 0, 4] := by kernel_rfl
@[go_sem] theorem live_98_5 : C.live 98 5 = some [3, 0, 4] := by kernel_rfl
@[go_sem] theorem live_98_6 : C.live 98 6 = some [4, 5, 6] := by kernel_rfl
@[go_sem] theorem esc_99 : C.esc 99 = [] := by kernel_rfl
@[go_sem] theorem live_99_0 : C.live 99 0 = some [1, 0] := by kernel_rfl
@[go_sem] theorem live_99_1 : C.live 99 1 = some [3, 0] := by kernel_rfl
@[go_sem] theorem live_99_2 : C.live 99 2 = some [0, 3] := by kernel_rfl
@[go_sem] theorem live_99_3 : C.live 99 3 = some [0, 3] := by kernel_rfl
@[go_sem] theorem esc_100 : C.esc 100 = [] := by kernel_rfl
@[go_sem] theorem live_100_0 : C.live 100 0 = some [0] := by kernel_rfl
@[go_sem] theorem live_100_1 : C.live 100 1 = some [0] := by kernel_rfl
@[go_sem] theorem esc_101 : C.esc 101 = [] := by kernel_rfl
@[go_sem] theorem live_101_0 : C.live 101 0 = some [1, 0] := by kernel_rfl
@[go_sem] theorem live_101_1 : C.live 101 1 = some [1, 0] := by kernel_rfl
@[go_sem] theorem live_101_2 : C.live 101 2 = some [0, 1, 5] := by kernel_rfl
@[go_sem] theorem live_101_4 : C.live 101 4 = some [0, 1, 5] := by kernel_rfl
@[go_sem] theorem live_101_5 : C.live 101 5 = some [] := by kernel_rfl
@[go_sem] theorem live_101_3 : C.live 101 3 = some [5, 1, 0] := by kernel_rfl
@[go_sem] theorem live_101_6 : C.live 101 6 = some [] := by kernel_rfl
@[go_sem] theorem esc_102 : C.esc 102 = [] := by kernel_rfl
@[go_sem] theorem live_102_0 : C.live 102 0 = some [] := by kernel_rfl
@[go_sem] theorem live_102_1 : C.live 102 1 = some [] := by kernel_rfl
@[go_sem] theorem esc_103 : C.esc 103 = [] := by kernel_rfl
@[go_sem] theorem live_103_0 : C.live 103 0 = some [0, 1] := by kernel_rfl
@[go_sem] theorem live_103_1 : C.live 103 1 = some [0, 1] := by kernel_rfl
@[go_sem] theorem live_103_2 : C.live 103 2 = some [7, 1, 0, 8] := by kernel_rfl
@[go_sem] theorem live_103_3 : C.live 103 3 = some [7, 1, 0, 8] := by kernel_rfl
@[go_sem] theorem live_103_4 : C.live 103 4 = some [7, 1, 0, 8, 5] := by kernel_rfl
@[go_sem] theorem live_103_5 : C.live 103 5 = some [5] := by kernel_rfl
@[go_sem] theorem live_103_6 : C.live 103 6 = some [8, 0, 1, 7] := by kernel_rfl
@[go_sem] theorem live_103_7 : C.live 103 7 = some [] := by kernel_rfl
@[go_sem] theorem esc_104 : C.esc 104 = [] := by kernel_rfl
@[go_sem] theorem live_104_0 : C.live 104 0 = some [0] := by kernel_rfl
@[go_sem] theorem live_104_1 : C.live 104 1 = some [1] := by kernel_rfl
@[go_sem] theorem esc_105 : C.esc 105 = [] := by kernel_rfl
@[go_sem] theorem live_105_0 : C.live 105 0 = some [0, 1] := by kernel_rfl
@[go_sem] theorem live_105_1 : C.live 105 1 = some [1, 2] := by kernel_rfl
@[go_sem] theorem live_105_2 : C.live 105 2 = some [1, 2] := by kernel_rfl
@[go_sem] theorem live_105_3 : C.live 105 3 = some [7, 6] := by kernel_rfl
@[go_sem] theorem live_105_5 : C.live 105 5 = some [6] := by kernel_rfl
@[go_sem] theorem live_105_6 : C.live 105 6 = some [] := by kernel_rfl
@[go_sem] theorem live_105_4 : C.live 105 4 = some [] := by kernel_rfl
@[go_sem] theorem live_105_7 : C.live 105 7 = some [6] := by kernel_rfl
@[go_sem] theorem live_105_8 : C.live 105 8 = some [1, 2] := by kernel_rfl
@[go_sem] theorem live_105_9 : C.live 105 9 = some [8, 1, 2] := by kernel_rfl
@[go_sem] theorem live_105_10 : C.live 105 10 = some [40, 2, 39, 1, 41, 8] := by kernel_rfl
@[go_sem] theorem live_105_11 : C.live 105 11 = some [40, 2, 39, 1, 41, 8] := by kernel_rfl
@[go_sem] theorem live_105_12 : C.live 105 12 = some [10, 40, 2, 39, 1, 41, 8] := by kernel_rfl
@[go_sem] theorem live_105_13 : C.live 105 13 = some [40, 2, 39, 1, 41, 11, 8, 12] := by kernel_rfl
@[go_sem] theorem live_105_14 : C.live 105 14 = some [12] := by kernel_rfl
@[go_sem] theorem live_105_15 : C.live 105 15 = some [8, 11, 41, 1, 39, 2, 40] := by kernel_rfl
@[go_sem] theorem live_105_16 : C.live 105 16 = some [41, 8, 1, 39, 2, 40] := by kernel_rfl
@[go_sem] theorem live_105_17 : C.live 105 17 = some [2, 8] := by kernel_rfl
@[go_sem] theorem live_105_18 : C.live 105 18 = some [2, 8] := by kernel_rfl
@[go_sem] theorem live_105_19 : C.live 105 19 = some [] := by kernel_rfl
@[go_sem] theorem live_105_20 : C.live 105 20 = some [] := by kernel_rfl
@[go_sem] theorem live_105_21 : C.live 105 21 = some [2, 8] := by kernel_rfl
@[go_sem] theorem live_105_22 : C.live 105 22 = some [8, 13, 14] := by kernel_rfl
@[go_sem] theorem live_105_23 : C.live 105 23 = some [90, 14, 89, 13, 91] := by kernel_rfl
@[go_sem] theorem live_105_24 : C.live 105 24 = some [90, 14, 89, 13, 91] := by kernel_rfl
@[go_sem] theorem live_105_25 : C.live 105 25 = some [16, 90, 14, 89, 13, 91] := by kernel_rfl
@[go_sem] theorem live_105_26 : C.live 105 26 = some [] := by kernel_rfl
@[go_sem] theorem live_105_27 : C.live 105 27 = some [91, 13, 89, 14, 90] := by kernel_rfl
@[go_sem] theorem live_105_28 : C.live 105 28 = some [14] := by kernel_rfl
@[go_sem] theorem esc_106 : C.esc 106 = [] := by kernel_rfl
@[go_sem] theorem live_106_0 : C.live 106 0 = some [1, 0] := by kernel_rfl
@[go_sem] theorem live_106_1 : C.live 106 1 = some [0, 3] := by kernel_rfl
@[go_sem] theorem live_106_2 : C.live 106 2 = some [3, 0] := by kernel_rfl
@[go_sem] theorem live_106_3 : C.live 106 3 = some [3, 0] := by kernel_rfl
@[go_sem] theorem live_106_4 : C.live 106 4 = some [21, 0, 19, 20] := by kernel_rfl
@[go_sem] theorem live_106_5 : C.live 106 5 = some [21, 0, 19, 20] := by kernel_rfl
@[go_sem] theorem live_106_6 : C.live 106 6 = some [5, 21, 0, 19, 20] := by kernel_rfl
@[go_sem] theorem live_106_7 : C.live 106 7 = some [21, 0, 19, 20] := by kernel_rfl
@[go_sem] theorem esc_107 : C.esc 107 = [] := by kernel_rfl
@[go_sem] theorem live_107_0 : C.live 107 0 = some [0] := by kernel_rfl
@[go_sem] theorem live_107_1 : C.live 107 1 = some [0] := by kernel_rfl
@[go_sem] theorem esc_108 : C.esc 108 = [] := by kernel_rfl
@[go_sem] theorem live_108_0 : C.live 108 0 = some [1, 0] := by kernel_rfl
@[go_sem] theorem live_108_1 : C.live 108 1 = some [1, 0] := by kernel_rfl
@[go_sem] theorem esc_109 : C.esc 109 = [] := by kernel_rfl
@[go_sem] theorem live_109_0 : C.live 109 0 = some [0] := by kernel_rfl
@[go_sem] theorem live_109_1 : C.live 109 1 = some [0] := by kernel_rfl
@[go_sem] theorem live_109_2 : C.live 109 2 = some [4] := by kernel_rfl
@[go_sem] theorem live_109_3 : C.live 109 3 = some [4] := by kernel_rfl
@[go_sem] theorem live_109_4 : C.live 109 4 = some [4] := by kernel_rfl
@[go_sem] theorem live_109_5 : C.live 109 5 = some [4] := by kernel_rfl
@[go_sem] theorem live_109_6 : C.live 109 6 = some [4] := by kernel_rfl
@[go_sem] theorem live_109_7 : C.live 109 7 = some [4] := by kernel_rfl
@[go_sem] theorem live_109_8 : C.live 109 8 = some [4] := by kernel_rfl
@[go_sem] theorem live_109_9 : C.live 109 9 = some [4] := by kernel_rfl
@[go_sem] theorem live_109_10 : C.live 109 10 = some [4] := by kernel_rfl
@[go_sem] theorem live_109_11 : C.live 109 11 = some [4] := by kernel_rfl
@[go_sem] theorem live_109_13 : C.live 109 13 = some [4] := by kernel_rfl
@[go_sem] theorem live_109_14 : C.live 109 14 = some [4] := by kernel_rfl
@[go_sem] theorem live_109_15 : C.live 109 15 = some [4] := by kernel_rfl
@[go_sem] theorem live_109_17 : C.live 109 17 = some [4] := by kernel_rfl
@[go_sem] theorem live_109_18 : C.live 109 18 = some [4] := by kernel_rfl
@[go_sem] theorem live_109_19 : C.live 109 19 = some [4] := by kernel_rfl
@[go_sem] theorem live_109_21 : C.live 109 21 = some [4] := by kernel_rfl
@[go_sem] theorem live_109_23 : C.live 109 23 = some [4] := by kernel_rfl
@[go_sem] theorem live_109_24 : C.live 109 24 = some [4] := by kernel_rfl
@[go_sem] theorem live_109_25 : C.live 109 25 = some [] := by kernel_rfl
@[go_sem] theorem live_109_22 : C.live 109 22 = some [] := by kernel_rfl
@[go_sem] theorem live_109_20 : C.live 109 20 = some [] := by kernel_rfl
@[go_sem] theorem live_109_16 : C.live 109 16 = some [] := by kernel_rfl
@[go_sem] theorem live_109_12 : C.live 109 12 = some [] := by kernel_rfl
@[go_sem] theorem live_109_26 : C.live 109 26 = some [] := by kernel_rfl
@[go_sem] theorem kind_24 : kindT Try.prog 24 = some (4, true) := by kernel_rfl
@[go_sem] theorem bool_30 : boolT Try.prog 30 = false := by kernel_rfl
@[go_sem] theorem kind_38 : kindT Try.prog 38 = some (3, true) := by kernel_rfl
@[go_sem] theorem zero_42 : zeroT Try.prog 42 = some (.agg [.nilS, .d (.int .i64 0), .nilS]) := by kernel_rfl
@[go_sem] theorem kind_42 : kindT Try.prog 42 = some (3, true) := by kernel_rfl
@[go_sem] theorem len_45 : lenT Try.prog 45 = 2 := by kernel_rfl
@[go_sem] theorem bool_3 : boolT Try.prog 3 = false := by kernel_rfl
@[go_sem] theorem arr_45 : arrT Try.prog 45 = none := by kernel_rfl
@[go_sem] theorem elem_45 : elemT Try.prog 45 = some (50, 20) := by kernel_rfl
@[go_sem] theorem field_50_0 : fieldT Try.prog 50 0 = some (0, 1, false) := by kernel_rfl
@[go_sem] theorem kind_4 : kindT Try.prog 4 = some (1, false) := by kernel_rfl
@[go_sem] theorem field_50_1 : fieldT Try.prog 50 1 = some (1, 13, true) := by kernel_rfl
@[go_sem] theorem field_48_0 : fieldT Try.prog 48 0 = some (0, 1, false) := by kernel_rfl
@[go_sem] theorem kind_3 : kindT Try.prog 3 = some (1, false) := by kernel_rfl
@[go_sem] theorem field_42_2 : fieldT Try.prog 42 2 = some (2, 1, false) := by kernel_rfl
@[go_sem] theorem kind_29 : kindT Try.prog 29 = some (1, false) := by kernel_rfl
@[go_sem] theorem len_29 : lenT Try.prog 29 = 2 := by kernel_rfl
@[go_sem] theorem arr_29 : arrT Try.prog 29 = none := by kernel_rfl
@[go_sem] theorem elem_29 : elemT Try.prog 29 = some (52, 5) := by kernel_rfl
@[go_sem] theorem kind_52 : kindT Try.prog 52 = some (5, true) := by kernel_rfl
@[go_sem] theorem zero_52 : zeroT Try.prog 52 = some (.agg [.d (.int .i64 0), .d (.int .i64 0), .d (.int .i64 0), .d (.int .i64 0), .d (.str [])]) := by kernel_rfl
@[go_sem] theorem fields_52 : fieldsT Try.prog 52 = some [(0, 1), (1, 1), (2, 1), (3, 1), (4, 1)] := by kernel_rfl
@[go_sem] theorem bool_52 : boolT Try.prog 52 = false := by kernel_rfl
@[go_sem] theorem flat_52 : flatT Try.prog 52 = some [1, 1, 1, 1, 2] := by kernel_rfl
@[go_sem] theorem field_42_1 : fieldT Try.prog 42 1 = some (1, 1, false) := by kernel_rfl
@[go_sem] theorem len_25 : lenT Try.prog 25 = 2 := by kernel_rfl
@[go_sem] theorem field_42_0 : fieldT Try.prog 42 0 = some (0, 1, false) := by kernel_rfl
@[go_sem] theorem kind_40 : kindT Try.prog 40 = some (1, false) := by kernel_rfl
@[go_sem] theorem len_40 : lenT Try.prog 40 = 2 := by kernel_rfl
@[go_sem] theorem field_38_1 : fieldT Try.prog 38 1 = some (1, 1, false) := by kernel_rfl
@[go_sem] theorem kind_35 : kindT Try.prog 35 = some (1, false) := by kernel_rfl
@[go_sem] theorem len_35 : lenT Try.prog 35 = 2 := by kernel_rfl
@[go_sem] theorem arr_40 : arrT Try.prog 40 = none := by kernel_rfl
@[go_sem] theorem elem_40 : elemT Try.prog 40 = some (3, 1) := by kernel_rfl
@[go_sem] theorem arr_35 : arrT Try.prog 35 = none := by kernel_rfl
@[go_sem] theorem elem_35 : elemT Try.prog 35 = some (56, 2) := by kernel_rfl
@[go_sem] theorem field_56_1 : fieldT Try.prog 56 1 = some (1, 1, false) := by kernel_rfl
@[go_sem] theorem field_52_0 : fieldT Try.prog 52 0 = some (0, 1, false) := by kernel_rfl
@[go_sem] theorem field_52_1 : fieldT Try.prog 52 1 = some (1, 1, false) := by kernel_rfl
@[go_sem] theorem arr_25 : arrT Try.prog 25 = none := by kernel_rfl
@[go_sem] theorem elem_25 : elemT Try.prog 25 = some (9, 1) := by kernel_rfl
@[go_sem] theorem kind_9 : kindT Try.prog 9 = some (1, false) := by kernel_rfl
@[go_sem] theorem len_9 : lenT Try.prog 9 = 1 := by kernel_rfl
@[go_sem] theorem elem_22 : elemT Try.prog 22 = some (24, 4) := by kernel_rfl
@[go_sem] theorem zero_24 : zeroT Try.prog 24 = some (.agg [.d (.int .i64 0), .d (.int .i64 0), .d (.str []), .nilS]) := by kernel_rfl
@[go_sem] theorem fields_24 : fieldsT Try.prog 24 = some [(0, 1), (1, 1), (2, 1), (3, 1)] := by kernel_rfl
@[go_sem] theorem zero_9 : zeroT Try.prog 9 = some (.d (.str [])) := by kernel_rfl
@[go_sem] theorem zero_3 : zeroT Try.prog 3 = some (.d (.int .i64 0)) := by kernel_rfl
@[go_sem] theorem fields_42 : fieldsT Try.prog 42 = some [(0, 1), (1, 1), (2, 1)] := by kernel_rfl
@[go_sem] theorem zero_69 : zeroT Try.prog 69 = some (.agg [.nilS, .nilS]) := by kernel_rfl
@[go_sem] theorem fields_69 : fieldsT Try.prog 69 = some [(0, 1), (1, 1)] := by kernel_rfl
@[go_sem] theorem field_69_0 : fieldT Try.prog 69 0 = some (0, 1, true) := by kernel_rfl
@[go_sem] theorem field_67_0 : fieldT Try.prog 67 0 = some (0, 1, false) := by kernel_rfl
@[go_sem] theorem field_38_0 : fieldT Try.prog 38 0 = some (0, 1, false) := by kernel_rfl
@[go_sem] theorem field_56_0 : fieldT Try.prog 56 0 = some (0, 1, false) := by kernel_rfl
@[go_sem] theorem field_38_2 : fieldT Try.prog 38 2 = some (2, 1, false) := by kernel_rfl
@[go_sem] theorem kind_36 : kindT Try.prog 36 = some (1, false) := by kernel_rfl
@[go_sem] theorem field_69_1 : fieldT Try.prog 69 1 = some (1, 1, false) := by kernel_rfl
@[go_sem] theorem kind_25 : kindT Try.prog 25 = some (1, false) := by kernel_rfl
@[go_sem] theorem kind_56 : kindT Try.prog 56 = some (2, true) := by kernel_rfl
@[go_sem] theorem zero_56 : zeroT Try.prog 56 = some (.agg [.d (.str []), .d (.int .i64 0)]) := by kernel_rfl
@[go_sem] theorem room_3_1 : aroomT Try.prog 3 1 = true := by kernel_rfl
@[go_sem] theorem room_9_1 : aroomT Try.prog 9 1 = true := by kernel_rfl
@[go_sem] theorem field_48_1 : fieldT Try.prog 48 1 = some (1, 1, false) := by kernel_rfl
@[go_sem] theorem field_24_2 : fieldT Try.prog 24 2 = some (2, 1, false) := by kernel_rfl
@[go_sem] theorem field_24_3 : fieldT Try.prog 24 3 = some (3, 1, false) := by kernel_rfl
@[go_sem] theorem kind_22 : kindT Try.prog 22 = some (1, false) := by kernel_rfl
@[go_sem] theorem len_22 : lenT Try.prog 22 = 2 := by kernel_rfl
@[go_sem] theorem arr_22 : arrT Try.prog 22 = none := by kernel_rfl
@[go_sem] theorem zero_38 : zeroT Try.prog 38 = some (.agg [.d (.str []), .nilS, .nilS]) := by kernel_rfl
@[go_sem] theorem fields_56 : fieldsT Try.prog 56 = some [(0, 1), (1, 1)] := by kernel_rfl
@[go_sem] theorem zero_48 : zeroT Try.prog 48 = some (.agg [.d (.int .i64 0), .d (.str []), .d (.int .i64 0), .d (.int .i64 0), .d (.int .i64 0), .d (.str []), .nilS, .d (.int .i64 0), .d (.int .i64 0), .d (.str []), .nilS, .nilS, .nilS]) := by kernel_rfl
@[go_sem] theorem fields_48 : fieldsT Try.prog 48 = some [(0, 1), (1, 1), (2, 1), (3, 4), (7, 4), (11, 1), (12, 1)] := by kernel_rfl
@[go_sem] theorem elem_36 : elemT Try.prog 36 = some (48, 13) := by kernel_rfl
@[go_sem] theorem fields_38 : fieldsT Try.prog 38 = some [(0, 1), (1, 1), (2, 1)] := by kernel_rfl
@[go_sem] theorem field_24_0 : fieldT Try.prog 24 0 = some (0, 1, false) := by kernel_rfl
@[go_sem] theorem field_24_1 : fieldT Try.prog 24 1 = some (1, 1, false) := by kernel_rfl
@[go_sem] theorem kind_2 : kindT Try.prog 2 = some (1, false) := by kernel_rfl
@[go_sem] theorem room_52_5 : aroomT Try.prog 52 5 = true := by kernel_rfl
@[go_sem] theorem len_36 : lenT Try.prog 36 = 2 := by kernel_rfl
@[go_sem] theorem arr_36 : arrT Try.prog 36 = none := by kernel_rfl
@[go_sem] theorem field_48_3 : fieldT Try.prog 48 3 = some (3, 4, true) := by kernel_rfl
@[go_sem] theorem field_48_4 : fieldT Try.prog 48 4 = some (7, 4, true) := by kernel_rfl
@[go_sem] theorem field_48_5 : fieldT Try.prog 48 5 = some (11, 1, false) := by kernel_rfl
@[go_sem] theorem field_48_6 : fieldT Try.prog 48 6 = some (12, 1, false) := by kernel_rfl
@[go_sem] theorem zero_86 : zeroT Try.prog 86 = some (.agg [.d (.int .i64 0), .d (.int .i64 0), .d (.int .i64 0), .d (.int .i64 0)]) := by kernel_rfl
@[go_sem] theorem kind_86 : kindT Try.prog 86 = some (4, true) := by kernel_rfl
@[go_sem] theorem arr_86 : arrT Try.prog 86 = some (4, 1, false) := by kernel_rfl
@[go_sem] theorem elem_86 : elemT Try.prog 86 = none := by kernel_rfl
@[go_sem] theorem kind_48 : kindT Try.prog 48 = some (13, true) := by kernel_rfl
@[go_sem] theorem zero_50 : zeroT Try.prog 50 = some (.agg [.d (.bool false), .d (.int .i64 0), .d (.str []), .d (.int .i64 0), .d (.int .i64 0), .d (.int .i64 0), .d (.str []), .nilS, .d (.int .i64 0), .d (.int .i64 0), .d (.str []), .nilS, .nilS, .nilS, .d (.int .i64 0), .d (.int .i64 0), .d (.int .i64 0), .d (.str []), .nilS, .d (.bool false)]) := by kernel_rfl
@[go_sem] theorem fields_50 : fieldsT Try.prog 50 = some [(0, 1), (1, 13), (14, 1), (15, 4), (19, 1)] := by kernel_rfl
@[go_sem] theorem room_50_20 : aroomT Try.prog 50 20 = true := by kernel_rfl
@[go_sem] theorem map_91 : mapT Try.prog 91 = some (2, 3) := by kernel_rfl
@[go_sem] theorem room_56_2 : aroomT Try.prog 56 2 = true := by kernel_rfl
@[go_sem] theorem bool_9 : boolT Try.prog 9 = false := by kernel_rfl
@[go_sem] theorem field_48_2 : fieldT Try.prog 48 2 = some (2, 1, false) := by kernel_rfl
@[go_sem] theorem bool_2 : boolT Try.prog 2 = false := by kernel_rfl
@[go_sem] theorem map_99 : mapT Try.prog 99 = some (2, 4) := by kernel_rfl
@[go_sem] theorem zero_4 : zeroT Try.prog 4 = some (.d (.bool false)) := by kernel_rfl
@[go_sem] theorem zero_101 : zeroT Try.prog 101 = some (.agg [.nilM, .nilM, .nilM]) := by kernel_rfl
@[go_sem] theorem fields_101 : fieldsT Try.prog 101 = some [(0, 1), (1, 1), (2, 1)] := by kernel_rfl
@[go_sem] theorem field_101_2 : fieldT Try.prog 101 2 = some (2, 1, false) := by kernel_rfl
@[go_sem] theorem kind_91 : kindT Try.prog 91 = some (1, false) := by kernel_rfl
@[go_sem] theorem zero_25 : zeroT Try.prog 25 = some (.nilS) := by kernel_rfl
@[go_sem] theorem zero_30 : zeroT Try.prog 30 = some (.d (.int .i64 0)) := by kernel_rfl
@[go_sem] theorem kind_30 : kindT Try.prog 30 = some (1, false) := by kernel_rfl
@[go_sem] theorem field_101_0 : fieldT Try.prog 101 0 = some (0, 1, false) := by kernel_rfl
@[go_sem] theorem zero_121 : zeroT Try.prog 121 = some (.agg [.d (.int .i64 0), .nilF, .nilF]) := by kernel_rfl
@[go_sem] theorem fields_121 : fieldsT Try.prog 121 = some [(0, 1), (1, 1), (2, 1)] := by kernel_rfl
@[go_sem] theorem field_121_0 : fieldT Try.prog 121 0 = some (0, 1, false) := by kernel_rfl
@[go_sem] theorem str_9 : strT Try.prog 9 = true := by kernel_rfl
@[go_sem] theorem arr_9 : arrT Try.prog 9 = none := by kernel_rfl
@[go_sem] theorem conv_5_21 : convT Try.prog 5 21 = some .i32 := by kernel_rfl
@[go_sem] theorem str_5 : strT Try.prog 5 = false := by kernel_rfl
@[go_sem] theorem str_21 : strT Try.prog 21 = false := by kernel_rfl
@[go_sem] theorem bool_5 : boolT Try.prog 5 = false := by kernel_rfl
@[go_sem] theorem zero_22 : zeroT Try.prog 22 = some (.nilS) := by kernel_rfl
@[go_sem] theorem str_35 : strT Try.prog 35 = false := by kernel_rfl
@[go_sem] theorem zero_131 : zeroT Try.prog 131 = some (.agg [.d (.bool false), .d (.bool false), .d (.bool false), .d (.bool false), .d (.bool false), .d (.bool false)]) := by kernel_rfl
@[go_sem] theorem kind_131 : kindT Try.prog 131 = some (6, true) := by kernel_rfl
@[go_sem] theorem field_131_0 : fieldT Try.prog 131 0 = some (0, 1, false) := by kernel_rfl
@[go_sem] theorem field_131_1 : fieldT Try.prog 131 1 = some (1, 1, false) := by kernel_rfl
@[go_sem] theorem field_131_2 : fieldT Try.prog 131 2 = some (2, 1, false) := by kernel_rfl
@[go_sem] theorem field_101_1 : fieldT Try.prog 101 1 = some (1, 1, false) := by kernel_rfl
@[go_sem] theorem kind_99 : kindT Try.prog 99 = some (1, false) := by kernel_rfl
@[go_sem] theorem field_121_1 : fieldT Try.prog 121 1 = some (1, 1, false) := by kernel_rfl
@[go_sem] theorem kind_105 : kindT Try.prog 105 = some (1, false) := by kernel_rfl
@[go_sem] theorem bool_21 : boolT Try.prog 21 = false := by kernel_rfl
@[go_sem] theorem room_24_4 : aroomT Try.prog 24 4 = true := by kernel_rfl
@[go_sem] theorem fields_131 : fieldsT Try.prog 131 = some [(0, 1), (1, 1), (2, 1), (3, 1), (4, 1), (5, 1)] := by kernel_rfl
@[go_sem] theorem field_131_3 : fieldT Try.prog 131 3 = some (3, 1, false) := by kernel_rfl
@[go_sem] theorem field_131_4 : fieldT Try.prog 131 4 = some (4, 1, false) := by kernel_rfl
@[go_sem] theorem field_131_5 : fieldT Try.prog 131 5 = some (5, 1, false) := by kernel_rfl
@[go_sem] theorem field_121_2 : fieldT Try.prog 121 2 = some (2, 1, false) := by kernel_rfl
@[go_sem] theorem kind_106 : kindT Try.prog 106 = some (1, false) := by kernel_rfl
attribute [go_sem] List.getElem?_toArray List.getElem?_cons_zero List.getElem?_cons_succ List.length_cons List.length_nil List.take_succ_cons List.take_zero List.drop_succ_cons List.drop_zero List.drop_nil List.take_nil List.nil_append List.cons_append List.append_nil List.contains_cons List.contains_nil Bool.or_false Bool.false_or Bool.or_true Bool.true_or Bool.and_true Bool.true_and Bool.and_false Bool.false_and Bool.not_true Bool.not_false Bool.not_not Option.isSome_some Option.isSome_none List.map_cons List.map_nil ite_not not_true_eq_false not_false_eq_true Nat.zero_add Nat.add_zero
end Go.Proofs.Ytjmghomnbmbjnaa
