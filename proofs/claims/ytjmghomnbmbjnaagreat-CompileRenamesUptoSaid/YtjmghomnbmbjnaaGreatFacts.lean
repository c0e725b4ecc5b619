/- Facts of this program that the walks look up: which slots live on, which escape, how wide the types are. -/
import Derived.Test.YtjmghomnbmbjnaaGreatProg
import Derived.KernelRfl
import Derived.Test.YtjmghomnbmbjnaaGreatGenC
import Derived.Test.YtjmghomnbmbjnaaGreatGenB
set_option linter.unusedVariables false
set_option linter.unusedSimpArgs false
set_option linter.all false
set_option linter.deprecated false
set_option linter.unusedVariables false
set_option linter.all false
namespace Go.Proofs.YtjmghomnbmbjnaaGreat
open Go.Abs
def escT (f : Nat) : List Nat := bif Nat.blt f 82 then (bif Nat.blt f 41 then (bif Nat.blt f 20 then (bif Nat.blt f 10 then ([]) else (bif Nat.blt f 15 then (bif Nat.blt f 12 then (bif Nat.blt f 11 then ([]) else ([18])) else ([])) else (bif Nat.blt f 17 then ([]) else (bif Nat.blt f 18 then ([]) else (bif Nat.blt f 19 then ([]) else ([15])))))) else ([])) else (bif Nat.blt f 61 then (bif Nat.blt f 51 then (bif Nat.blt f 46 then (bif Nat.blt f 43 then ([]) else (bif Nat.blt f 44 then ([]) else (bif Nat.blt f 45 then ([21]) else ([3])))) else ([])) else ([])) else (bif Nat.blt f 71 then (bif Nat.blt f 66 then ([]) else (bif Nat.blt f 68 then ([]) else (bif Nat.blt f 69 then ([]) else (bif Nat.blt f 70 then ([]) else ([3]))))) else (bif Nat.blt f 76 then (bif Nat.blt f 73 then ([]) else (bif Nat.blt f 74 then ([11]) else ([]))) else ([]))))) else (bif Nat.blt f 123 then (bif Nat.blt f 102 then (bif Nat.blt f 92 then ([]) else (bif Nat.blt f 97 then ([]) else (bif Nat.blt f 99 then ([]) else (bif Nat.blt f 100 then ([]) else (bif Nat.blt f 101 then ([]) else ([4])))))) else (bif Nat.blt f 112 then (bif Nat.blt f 107 then ([]) else (bif Nat.blt f 109 then (bif Nat.blt f 108 then ([3]) else ([1])) else ([]))) else ([]))) else ([]))
def liveL (f : Nat) : List (Nat × List Nat) := bif Nat.blt f 82 then (bif Nat.blt f 41 then (bif Nat.blt f 20 then (bif Nat.blt f 10 then (bif Nat.blt f 5 then (bif Nat.blt f 2 then ([]) else (bif Nat.blt f 3 then ([(0, [])]) else (bif Nat.blt f 4 then ([(0, [0]), (1, [1]), (2, []), (3, [1]), (4, [3, 4]), (5, []), (6, [4, 3]), (7, [3, 4, 5]), (9, [3, 4, 5]), (10, []), (8, [5, 4, 3]), (11, [])]) else ([(0, [0]), (1, [1]), (2, []), (3, [1]), (4, [1, 3, 4]), (5, [3, 5, 4, 6])])))) else (bif Nat.blt f 7 then (bif Nat.blt f 6 then ([(0, [0, 2, 1]), (1, [3, 2, 1]), (2, []), (3, [1, 2, 3]), (4, [8, 7, 3]), (5, []), (6, [3, 7]), (7, [7, 9, 10]), (8, [9, 11, 10, 12])]) else ([(0, [0]), (1, [1]), (2, []), (3, [1]), (4, [4, 3, 1]), (5, []), (6, [1, 3]), (7, [1, 3, 5]), (8, [3, 6, 5]), (9, []), (10, [5, 6, 3]), (11, [7, 5, 6, 3]), (12, [3, 6, 5, 8, 7]), (14, [3, 6, 5, 8, 7]), (15, [3, 6, 5, 8, 7]), (16, []), (17, [7, 8, 5, 6, 3]), (13, [8, 7, 5, 6, 3]), (18, [5, 3, 7, 6]), (19, [9, 5, 3, 7, 6]), (21, [9, 5, 3, 7, 6]), (22, [9, 5, 3, 7, 6, 10]), (23, []), (24, [10, 6, 7, 3, 5, 9]), (25, []), (20, [9, 5, 3, 7, 6]), (26, [7, 6])])) else (bif Nat.blt f 8 then ([(0, [0, 1]), (1, [1, 2]), (2, []), (3, [2, 1]), (4, [1, 2, 5]), (6, [1, 2, 5]), (7, []), (5, [5, 2, 1]), (8, [2, 1])]) else (bif Nat.blt f 9 then ([(0, []), (1, []), (2, [1]), (3, [1, 3, 2]), (4, [3, 2, 5]), (5, [3, 2, 5, 7, 6]), (6, [3, 2, 5, 7, 6, 8])]) else ([(0, [0]), (1, [1]), (2, []), (3, [1]), (4, [1, 3]), (5, [1, 4, 3]), (6, [3, 16, 4, 14, 15]), (7, [3, 16, 4, 14, 15]), (8, [3, 6, 16, 4, 14, 15]), (9, [6, 3, 16, 4, 14, 15]), (10, [3, 16, 4, 14, 15]), (11, [16, 4, 3, 14, 15]), (12, [3])]))))) else (bif Nat.blt f 15 then (bif Nat.blt f 12 then (bif Nat.blt f 11 then ([(0, [0]), (1, [1]), (2, []), (3, [1]), (4, [1, 3]), (5, [3, 4, 1]), (7, [3, 4, 1]), (6, [4, 1, 3]), (8, [1, 3]), (9, [3, 5]), (10, [3, 6, 5]), (12, [3, 6, 5]), (13, [3, 7, 6, 5]), (14, [3, 7, 6, 5]), (15, [3, 7, 6, 5]), (16, [3, 7, 6, 5]), (11, [6, 3, 5]), (17, [3])]) else ([(0, [0]), (1, [1, 2]), (2, [1, 4, 2]), (3, [4, 2]), (4, [1, 2]), (5, [1, 5, 2]), (6, [2]), (7, [5, 1, 2]), (8, [5, 1, 2]), (9, [5, 1, 2]), (10, [1, 6, 2]), (11, [48, 6, 46, 2, 47]), (12, [48, 6, 46, 2, 47]), (13, [8, 48, 6, 46, 2, 47]), (14, [48, 6, 46, 2, 47]), (15, [6, 2])])) else (bif Nat.blt f 13 then ([(0, [0]), (1, [1, 2]), (2, [1, 4, 2]), (3, [4, 2]), (4, [1, 2]), (5, [5, 1, 2]), (6, [2]), (7, [1, 5, 2]), (8, [6, 1, 5, 2]), (9, [7, 6, 1, 5, 2]), (11, [7, 6, 1, 5, 2]), (10, [7, 6, 1, 5, 2]), (12, [1, 5, 6, 2]), (13, [6, 2]), (14, [6, 2])]) else (bif Nat.blt f 14 then ([(0, [0, 1]), (1, [2, 3]), (2, []), (3, [3, 2]), (4, [2, 3, 5]), (6, [2, 3, 5]), (7, []), (5, [5, 3, 2]), (8, [2, 3])]) else ([(0, [0, 1, 2]), (1, [1, 3, 2, 6]), (2, [6]), (3, [2, 3, 1, 6]), (4, [6]), (5, [1, 3, 2, 6]), (6, [1, 8, 3, 2, 6]), (7, [1, 8, 9, 3, 2, 6]), (8, [9, 10, 1, 8, 3, 2, 6]), (10, [9, 10, 1, 8, 3, 2, 6]), (9, [10, 1, 8, 9, 3, 2, 6]), (11, [9, 3, 2, 1, 6]), (12, [6]), (13, [1, 2, 3, 6]), (14, [6]), (15, [3, 2, 1, 6]), (16, [11, 3, 2, 1, 6]), (17, [12, 11, 3, 2, 1, 6]), (19, [12, 11, 3, 2, 1, 6]), (18, [12, 11, 3, 2, 1, 6]), (20, [11, 6])])))) else (bif Nat.blt f 17 then (bif Nat.blt f 16 then ([(0, [0]), (1, [1]), (2, []), (3, [1]), (4, [3, 1]), (5, [1, 3]), (6, [4, 3]), (7, [5, 4, 3]), (9, [5, 4, 3]), (10, [3, 5, 4]), (11, [3, 6, 5, 4]), (12, [3, 6, 5, 4]), (13, [3, 7, 6, 5, 4]), (14, [3, 6, 5, 4]), (15, [3, 6, 5, 4]), (8, [5, 4, 3]), (16, [3])]) else ([(0, [1, 0]), (1, [1, 0]), (2, [1, 0, 5]), (3, [5, 6, 1, 0]), (5, [5, 6, 1, 0]), (6, [5, 6, 1, 0]), (7, [5, 6, 1, 0]), (8, [5, 6, 1, 0]), (9, [5, 6, 1, 0]), (4, [6, 1, 0, 5]), (10, [5])])) else (bif Nat.blt f 18 then ([(0, [0]), (1, [0, 2])]) else (bif Nat.blt f 19 then ([(0, []), (1, [0])]) else ([(0, [0, 1]), (1, [2, 1]), (2, [2, 1, 6]), (3, [6]), (4, [1, 2]), (5, [2, 7]), (6, []), (7, [7])])))))) else (bif Nat.blt f 30 then (bif Nat.blt f 25 then (bif Nat.blt f 22 then (bif Nat.blt f 21 then ([(0, []), (1, [0]), (2, [1, 0])]) else ([(0, [0, 1]), (1, [0, 1]), (2, []), (3, [1, 0]), (4, [0, 1, 5]), (6, [0, 1, 5]), (7, []), (5, [5, 1, 0]), (8, [])])) else (bif Nat.blt f 23 then ([(0, [0]), (1, [1]), (2, [4])]) else (bif Nat.blt f 24 then ([(0, [1, 0]), (1, [1, 0]), (2, [0, 9, 7, 8]), (3, [0, 9, 7, 8]), (4, [0, 6, 9, 7, 8]), (5, [0, 6, 9, 7, 8]), (6, [0, 6, 9, 7, 8]), (7, [9, 0, 7, 8]), (8, [0])]) else ([(0, [0]), (1, [1]), (2, [4, 3, 1]), (3, []), (4, [1, 3]), (5, [1, 3, 5]), (6, [5, 18, 3, 16, 17]), (7, [5, 18, 3, 16, 17]), (8, [5, 7, 18, 3, 16, 17]), (9, [18, 3, 5, 16, 17]), (10, [5])])))) else (bif Nat.blt f 27 then (bif Nat.blt f 26 then ([(0, [0, 1]), (1, [0, 1])]) else ([(0, [0]), (1, [1]), (2, [1, 3]), (3, [3]), (4, [1]), (5, [1, 4]), (6, [4, 1, 5]), (8, [4, 1, 5]), (9, []), (10, [5, 1, 4]), (7, [5, 1, 4]), (11, [4, 1]), (12, [6, 4, 1]), (13, [7, 6, 4, 1]), (15, [7, 6, 4, 1]), (16, [1, 4, 6, 7, 8]), (18, [1, 4, 6, 7, 8]), (19, []), (17, [8, 7, 6, 4, 1]), (14, [7, 6, 4, 1]), (20, [4, 1])])) else (bif Nat.blt f 28 then ([(0, [0]), (1, [1])]) else (bif Nat.blt f 29 then ([(0, [0]), (1, [1]), (2, [1, 3]), (3, [3]), (4, [1]), (5, [4]), (7, [4]), (8, [4]), (9, [4]), (10, []), (6, []), (11, [])]) else ([(0, [1, 0]), (1, [8, 0, 6, 7]), (2, [8, 0, 6, 7]), (3, [5, 8, 0, 6, 7]), (4, [8, 0, 6, 7])]))))) else (bif Nat.blt f 35 then (bif Nat.blt f 32 then (bif Nat.blt f 31 then ([(0, [0, 1])]) else ([(0, [0]), (1, [1]), (2, [1, 3]), (3, [3]), (4, [1]), (5, [4]), (6, []), (7, [4]), (8, []), (9, [])])) else (bif Nat.blt f 33 then ([(0, [2, 1, 0]), (1, [2, 1, 0]), (2, [7, 2, 1, 0]), (3, [7, 8, 2, 1, 0]), (5, [7, 8, 2, 1, 0]), (7, [19, 7, 8, 2, 1, 0]), (9, [19, 7, 8, 2, 1, 0]), (6, [7, 8, 2, 1, 0]), (10, [7, 8, 2, 1, 0]), (8, [7, 8, 2, 1, 0]), (4, [8, 7, 2, 1, 0]), (11, [7])]) else (bif Nat.blt f 34 then ([(0, [0, 1]), (1, [0, 1, 4])]) else ([(0, [0]), (1, [1]), (2, []), (3, [1]), (4, [1, 3]), (5, [3]), (6, [1]), (7, [4]), (8, [4, 5]), (10, [4, 5]), (11, [4, 5]), (12, [4, 5, 6]), (13, [6]), (9, [5, 4]), (14, [4]), (15, []), (16, [])])))) else (bif Nat.blt f 38 then (bif Nat.blt f 36 then ([(0, [0]), (1, [0])]) else (bif Nat.blt f 37 then ([(0, [0]), (1, [1]), (2, [1, 3]), (3, [3, 4, 1]), (5, [3, 4, 1]), (4, [4, 1, 3]), (6, [1, 3]), (7, [5, 3]), (8, [3, 6, 5]), (10, [3, 6, 5]), (11, [3, 6, 5]), (9, [6, 5, 3]), (12, [3])]) else ([(0, [0, 1]), (1, [1, 2]), (2, [2, 1, 5]), (4, [2, 1, 5]), (5, []), (3, [5, 1, 2]), (6, [2, 1]), (7, [1, 6]), (8, [6, 1, 7]), (10, [6, 1, 7]), (11, []), (9, [7, 1, 6]), (12, [])]))) else (bif Nat.blt f 39 then ([(0, [2, 1, 0]), (1, [2, 1, 0]), (2, [7, 2, 1, 0]), (3, [7, 8, 2, 1, 0]), (5, [7, 8, 2, 1, 0]), (6, [7, 9, 8, 2, 1, 0]), (7, [7, 9, 8, 2, 1, 0]), (8, [7, 9, 8, 2, 1, 0]), (9, [7, 9, 8, 2, 1, 0]), (10, [7, 9, 8, 2, 1, 0]), (11, [7, 9, 8, 2, 1, 0]), (4, [8, 7, 2, 1, 0]), (12, [7])]) else (bif Nat.blt f 40 then ([(0, [1, 0, 2]), (1, [1, 0, 2]), (2, [2]), (3, [0])]) else ([(0, [0, 1]), (1, [1, 2]), (2, [1, 2, 6]), (3, [6]), (4, [2, 1])]))))))) else (bif Nat.blt f 61 then (bif Nat.blt f 51 then (bif Nat.blt f 46 then (bif Nat.blt f 43 then (bif Nat.blt f 42 then ([(0, [0, 1]), (1, [1, 2]), (2, [5, 1, 2]), (3, [5, 6, 1, 2]), (5, [5, 6, 1, 2]), (4, [6, 5, 1, 2]), (6, [5])]) else ([(0, [0]), (1, [1])])) else (bif Nat.blt f 44 then ([(0, [1, 0]), (1, [0, 3]), (2, [10, 0, 3]), (5, [10, 0, 3]), (8, [10, 3, 0]), (9, [3, 0]), (10, [0, 5]), (11, [5]), (6, [0, 3]), (7, []), (3, [0, 3]), (4, []), (12, [0, 3]), (13, [6, 0, 3]), (14, [6, 46, 0, 44, 3, 45]), (15, [6, 46, 0, 44, 3, 45]), (16, [8, 6, 46, 0, 44, 3, 45]), (17, [46, 6, 0, 44, 3, 45]), (18, [0, 3, 6]), (19, [6])]) else (bif Nat.blt f 45 then ([(0, [0]), (1, [1]), (2, [1, 4]), (3, [4]), (4, [1]), (5, [5, 1]), (6, [24, 1, 23, 5, 25]), (7, [24, 1, 23, 5, 25]), (8, [24, 1, 23, 5, 25, 7]), (9, []), (10, [7, 25, 5, 23, 1, 24]), (11, [25, 5, 23, 1, 24]), (12, [1, 5]), (13, [8, 1, 5]), (14, [42, 5, 1, 41, 8, 43]), (15, [42, 5, 1, 41, 8, 43]), (16, [42, 5, 1, 41, 8, 43, 10]), (17, []), (18, [10, 43, 8, 41, 1, 5, 42]), (19, [43, 8, 41, 1, 5, 42]), (20, [1, 5]), (21, [5, 11])]) else ([(0, [0]), (1, [1]), (2, [3, 1]), (3, [9, 3, 7, 1, 8]), (4, [9, 3, 7, 1, 8]), (5, [5, 9, 3, 7, 1, 8]), (6, [9, 3, 7, 1, 8]), (7, [1, 3]), (8, [3])])))) else (bif Nat.blt f 48 then (bif Nat.blt f 47 then ([(0, [0, 1]), (1, [0, 1]), (2, [7, 1, 0, 8]), (3, [7, 1, 0, 8]), (4, [7, 1, 0, 8, 5]), (5, [5]), (6, [8, 0, 1, 7]), (7, [])]) else ([(0, [0, 2, 3, 1]), (1, [2, 4, 3, 1, 8]), (2, [2, 4, 3, 1, 9, 8]), (3, [2, 4, 3, 1, 9, 8]), (4, [4, 3, 1, 9, 8]), (5, [3, 1, 9, 8]), (6, [1, 9, 8]), (7, [9, 8])])) else (bif Nat.blt f 49 then ([(0, [0, 1]), (1, [2, 1]), (2, [1, 2, 5]), (4, [1, 2, 5]), (5, [1, 2, 5, 6]), (6, [9, 8, 1, 2, 5, 7, 6]), (7, [8, 1, 2, 5, 7, 6]), (8, [8, 9, 1, 2, 5, 7, 6]), (9, [1, 2, 5, 7, 6]), (10, [9, 1, 2, 5, 7, 6]), (11, [1, 2, 5, 7, 6]), (12, [9, 1, 2, 5, 7, 6]), (13, [1, 2, 5, 7, 6]), (14, [9, 1, 2, 5, 7, 6]), (15, [1, 2, 5, 7, 6]), (16, [1, 2, 5, 7, 6, 9]), (17, [9]), (18, [6, 7, 5, 2, 1]), (19, [6, 7, 5, 2, 1]), (3, [5, 2, 1]), (20, [])]) else (bif Nat.blt f 50 then ([(0, [2, 1, 0]), (1, [2, 1, 0]), (2, [0, 7, 2, 1]), (4, [0, 7, 2, 1]), (5, [0, 7, 2, 1]), (6, [0, 7, 2, 1]), (7, [0, 7, 2, 1]), (8, [0, 7, 2, 1]), (9, [0, 7, 2, 1]), (10, [0, 7, 2, 1]), (3, [7, 2, 1, 0]), (11, [0])]) else ([(0, [0]), (1, [1]), (2, [1, 3]), (3, [3]), (4, [1]), (5, [6]), (6, []), (7, [])]))))) else (bif Nat.blt f 56 then (bif Nat.blt f 53 then (bif Nat.blt f 52 then ([(0, [0]), (1, [0, 2]), (2, [0, 3, 2]), (3, [8, 3, 6, 2, 7]), (4, [8, 3, 6, 2, 7]), (5, [5, 8, 3, 6, 2, 7]), (6, [8, 3, 6, 2, 7]), (7, [3, 2])]) else ([(0, [1, 0]), (1, [0, 3]), (2, [0, 3]), (3, [0, 3]), (4, [0, 3]), (5, [0, 3]), (6, [22, 0, 3]), (7, [22, 0, 3]), (9, [22, 3, 0]), (12, [22, 3, 0]), (14, [3, 22, 0]), (16, [22, 0, 3]), (18, [22, 0, 3]), (19, [0, 3]), (17, [0, 3]), (15, [0]), (13, [0]), (10, [3, 0]), (11, [0]), (8, [0, 3])])) else (bif Nat.blt f 54 then ([(0, [1, 0]), (1, [3, 0]), (2, [0])]) else (bif Nat.blt f 55 then ([(0, [0]), (1, [1]), (2, [1, 3]), (3, [3]), (4, [1]), (5, [6]), (6, []), (7, [])]) else ([(0, [0]), (1, [1, 2]), (2, [2]), (3, [1, 2])])))) else (bif Nat.blt f 58 then (bif Nat.blt f 57 then ([(0, [0, 2, 1]), (1, [2, 1, 3]), (2, [7, 2, 1, 3]), (3, [2, 1, 3, 7]), (4, [2, 1, 3, 7, 8]), (5, [1, 3, 7, 9, 8]), (6, [7, 9, 8]), (7, [7, 8]), (8, [3, 1, 7, 8, 9]), (9, [7, 8, 9, 10]), (10, [7, 8, 9, 10]), (11, [7, 9, 10]), (12, [7, 10])]) else ([(0, [0, 1, 2]), (1, [3, 1, 2]), (2, [3, 1, 2, 7]), (3, [8, 3, 1, 2, 7]), (4, [8, 3, 1, 2, 7]), (5, [8, 3, 1, 2, 7]), (6, [8, 3, 1, 2, 7]), (7, [8, 3, 1, 2, 7]), (8, [8, 3, 1, 2, 7]), (9, [8, 3, 1, 2, 7, 9]), (10, [3, 1, 2, 8, 7, 9]), (11, [2, 8, 10, 7, 9]), (12, [8, 10, 7, 9]), (13, [8, 7, 9])])) else (bif Nat.blt f 59 then ([(0, [0, 1]), (1, [1, 2]), (2, [1, 5, 2]), (3, [5, 2]), (4, [5, 2, 1]), (5, [5, 2, 1]), (6, [24, 5, 2, 1]), (9, [1, 2, 24, 5]), (11, [24, 2, 1, 5]), (12, [5]), (10, [5]), (7, [5, 2, 1]), (8, [5]), (13, [5, 1, 2])]) else (bif Nat.blt f 60 then ([(0, [0]), (1, [0]), (2, []), (3, [0]), (4, [3, 0]), (6, [3, 0]), (7, []), (8, [0, 3]), (9, []), (10, [3, 0]), (11, [0, 3, 4]), (13, [0, 3, 4]), (14, []), (12, [4, 3, 0]), (5, [3, 0]), (15, [])]) else ([(0, [0, 1]), (1, [2, 1]), (2, [6, 9, 10, 5, 8, 2, 1, 7]), (3, []), (4, [7, 1, 2, 8, 5]), (5, []), (6, [5, 8, 2, 1, 7]), (7, []), (8, [7, 1, 2, 8]), (9, [1, 2, 8]), (10, [1, 2, 8, 11]), (11, [11]), (12, [8, 2, 1]), (13, [2, 1]), (14, [1, 12]), (15, [12]), (16, [1]), (17, []), (18, [])])))))) else (bif Nat.blt f 71 then (bif Nat.blt f 66 then (bif Nat.blt f 63 then (bif Nat.blt f 62 then ([(0, [0]), (1, [0])]) else ([(0, [1, 0]), (1, [1, 0]), (2, [1, 0]), (3, [1])])) else (bif Nat.blt f 64 then ([(0, [0]), (1, [0])]) else (bif Nat.blt f 65 then ([(0, [0, 2, 1]), (1, [2, 1, 3, 6]), (2, [7, 2, 1, 3, 6]), (3, [7, 2, 1, 3, 6]), (4, [7, 2, 1, 3, 6]), (5, [8, 7, 2, 1, 3, 6]), (7, [8, 7, 2, 1, 3, 6]), (6, [8, 7, 2, 1, 3, 6]), (8, [7, 6])]) else ([(0, [0]), (1, [1])])))) else (bif Nat.blt f 68 then (bif Nat.blt f 67 then ([(0, [0, 1]), (1, [2, 1]), (2, [6, 2, 1]), (3, [2, 1]), (4, [2, 1, 6]), (5, [7, 2, 1, 6, 8]), (6, [8]), (7, [6, 1, 2, 7]), (8, [2, 7]), (9, [7, 9, 10]), (10, []), (11, [10]), (12, [1, 7, 2]), (13, [11, 7, 2, 8]), (14, [8]), (15, [2, 7, 11]), (16, [12]), (17, []), (18, [12])]) else ([(0, [0, 1]), (1, [1, 2]), (2, [1, 2, 5]), (3, [5]), (4, [2, 1]), (5, [17, 16, 1, 18]), (6, [17, 16, 1, 18]), (7, [7, 17, 16, 1, 18]), (8, [17, 16, 1, 18, 8]), (9, [8]), (10, [18, 1, 16, 17]), (11, [])])) else (bif Nat.blt f 69 then ([(0, [1, 0]), (1, [1, 0]), (2, []), (3, [0, 1])]) else (bif Nat.blt f 70 then ([(0, [0, 1, 2])]) else ([(0, [0]), (1, [1]), (2, []), (3, [1]), (4, [1, 3]), (5, [3]), (6, [1, 3]), (7, [4, 3]), (8, []), (9, [3])]))))) else (bif Nat.blt f 76 then (bif Nat.blt f 73 then (bif Nat.blt f 72 then ([(0, [0, 1, 2]), (1, [0, 1, 2])]) else ([(0, [0, 1]), (1, [0, 1]), (2, [11, 1, 10, 0, 12]), (3, [11, 1, 10, 0, 12]), (4, [6, 11, 1, 10, 0, 12]), (5, [11, 1, 10, 0, 12, 7]), (6, [7]), (7, [12, 0, 10, 1, 11]), (8, [1, 0]), (9, [25, 0, 23, 24]), (10, [25, 0, 23, 24]), (11, [9, 25, 0, 23, 24]), (12, [9, 25, 0, 23, 24]), (13, [25, 0, 23, 24]), (14, [])])) else (bif Nat.blt f 74 then ([(0, [0, 1, 2]), (1, [1, 2, 3]), (2, [3, 7]), (3, [7])]) else (bif Nat.blt f 75 then ([(0, [0, 2]), (1, [3, 2]), (2, [3, 2])]) else ([(0, [0])])))) else (bif Nat.blt f 79 then (bif Nat.blt f 77 then ([(0, [0, 1]), (1, [3, 2]), (2, []), (3, [2, 3]), (4, [2, 3, 7, 8]), (5, [7, 8]), (6, [3, 2, 7]), (7, [7, 9, 8])]) else (bif Nat.blt f 78 then ([(0, [0, 2, 1]), (1, [2, 3, 1]), (2, [7, 2, 3, 1, 8]), (3, [8]), (4, [1, 3, 2, 7]), (5, [7, 2, 3, 1, 9]), (7, [7, 2, 3, 1, 9]), (8, []), (6, [9, 1, 3, 2, 7]), (9, [2, 7]), (10, []), (11, [])]) else ([(0, [0, 1, 2]), (1, [0, 1, 2]), (2, [7, 1, 2]), (4, [7, 2, 1]), (6, [2, 7, 1]), (8, [7, 1, 2]), (10, [7, 1]), (11, [1]), (9, [1, 2]), (7, [1]), (5, [1]), (3, [1, 2]), (12, [])]))) else (bif Nat.blt f 80 then ([(0, [0]), (1, [1])]) else (bif Nat.blt f 81 then ([(0, [1, 2, 0]), (1, [4, 2, 0]), (2, [0]), (3, [0, 2, 4]), (4, [4, 0]), (5, [0, 7, 4]), (7, [0, 7, 4]), (6, [7, 4, 0]), (8, [0])]) else ([(0, [0]), (1, [1, 2, 3, 4]), (2, [2, 3, 4]), (3, [1, 2, 3, 4]), (4, [1, 2, 3, 4]), (5, [15, 13, 2, 3, 4, 14]), (6, [15, 13, 2, 3, 4, 14]), (7, [7, 15, 13, 2, 3, 4, 14]), (12, [15, 13, 2, 3, 4, 14]), (13, [2, 3, 4])])))))))) else (bif Nat.blt f 123 then (bif Nat.blt f 102 then (bif Nat.blt f 92 then (bif Nat.blt f 87 then (bif Nat.blt f 84 then (bif Nat.blt f 83 then ([(0, [0, 1]), (1, [2, 3, 4]), (2, [6, 2, 3, 4]), (3, [6, 2, 3, 4]), (4, [5, 6, 2, 3, 4]), (5, [6, 2, 3, 4]), (6, [2, 4])]) else ([(0, [0]), (1, [1, 2]), (2, [1, 3, 2]), (3, [1, 3, 2]), (4, [1, 3, 2]), (5, [1, 3, 2]), (6, [13, 1, 3, 2]), (9, [13, 1, 3, 2]), (11, [1, 13, 3, 2]), (13, [13, 3, 1, 2]), (15, [13, 3, 1, 2]), (16, [3, 1, 2]), (17, [3, 1, 2]), (18, [3, 1, 2]), (14, [3, 1, 2]), (12, [3, 2]), (10, [3, 2]), (7, [1, 3, 2]), (8, [3, 2]), (19, [3, 2])])) else (bif Nat.blt f 85 then ([(0, [1, 0]), (1, [3, 0]), (2, [3, 0, 4]), (3, [3, 0, 4]), (4, [0, 4]), (5, [4, 3, 0]), (6, [4, 3, 0, 5]), (7, [3, 0, 5]), (8, [0, 5])]) else (bif Nat.blt f 86 then ([(0, [1, 0]), (1, [3, 0]), (2, [3, 4, 0]), (3, [3, 4, 0]), (4, [3, 4, 0]), (5, [3, 4, 0]), (6, [3, 4, 0]), (7, [3, 4, 5, 0]), (8, [3, 4, 5, 0]), (9, [3, 4, 5, 0]), (10, [3, 4, 5, 0]), (11, [3, 4, 5, 0, 6]), (12, [3, 4, 5, 0, 6]), (13, [4, 5, 0, 6]), (14, [4, 5, 0, 6]), (15, [4, 5, 0, 6]), (16, [4, 5, 0, 6]), (17, [5, 0, 6]), (18, [0, 6])]) else ([(0, [0]), (1, [1]), (2, []), (3, [1]), (4, [5]), (5, [6, 5]), (6, [6, 7, 5]), (8, [6, 7, 5]), (9, [6, 8, 7, 5]), (10, [5, 7, 8, 9, 6]), (12, [5, 7, 8, 9, 6]), (13, [8, 9, 6]), (14, [6, 9, 8, 7, 5]), (11, [9, 6, 8, 7, 5]), (7, [7, 6, 5]), (15, [])])))) else (bif Nat.blt f 89 then (bif Nat.blt f 88 then ([(0, [0]), (1, [0, 2]), (2, [3, 0, 2]), (3, [4, 3, 0, 2]), (5, [4, 3, 0, 2]), (6, [5, 4, 3, 0, 2]), (7, [5, 6, 4, 3, 0, 2]), (8, [5, 6, 4, 3, 0, 2]), (9, [5, 6, 4, 3, 0, 2]), (10, [5, 6, 4, 3, 0, 2]), (11, [6, 4, 3, 0, 2]), (4, [4, 3, 0, 2]), (12, [3, 2])]) else ([(0, [0, 1]), (1, [1, 2]), (2, [8, 1, 2]), (4, [1, 8, 2]), (6, [8, 1, 2]), (7, [1, 2]), (5, [2]), (3, [2]), (8, [1, 2]), (9, [1, 2, 5]), (10, [5, 6, 1, 2]), (12, [5, 6, 1, 2]), (11, [6, 1, 2, 5]), (13, [5, 2])])) else (bif Nat.blt f 90 then ([(0, [1, 0]), (1, [1, 0]), (2, [0, 1, 5]), (4, [0, 1, 5]), (5, [5]), (3, [5, 1, 0]), (6, [])]) else (bif Nat.blt f 91 then ([(0, [0]), (1, [0]), (2, [8]), (3, [8]), (5, [8]), (7, [8]), (8, [8]), (10, [8]), (12, [8]), (13, []), (11, []), (9, []), (6, []), (4, []), (14, [])]) else ([(0, [0]), (1, [0])]))))) else (bif Nat.blt f 97 then (bif Nat.blt f 94 then (bif Nat.blt f 93 then ([(0, [1, 0]), (1, [1, 0]), (2, [0, 1, 5]), (4, [0, 1, 5]), (5, []), (3, [5, 1, 0]), (6, [])]) else ([(0, []), (1, [])])) else (bif Nat.blt f 95 then ([(0, [0, 1]), (1, [2, 1]), (2, [2, 1, 5]), (3, [5]), (4, [1, 2]), (5, [2, 1, 6]), (7, [2, 1, 6]), (8, [2, 1, 6, 7]), (9, [7]), (6, [6, 1, 2]), (10, [])]) else (bif Nat.blt f 96 then ([(0, [0]), (1, [0]), (2, [0, 3]), (3, [0, 3]), (4, [0, 3]), (5, [0, 3]), (6, [0, 3]), (7, [0, 3]), (9, [3, 0]), (10, [3, 0]), (11, [3, 0]), (12, [3, 0]), (13, [3, 0]), (14, [3, 0]), (15, [3, 0]), (16, []), (8, []), (17, [0]), (18, []), (19, [])]) else ([(0, [0, 1]), (1, [1, 2]), (2, [1, 2]), (3, [2]), (4, []), (5, [])])))) else (bif Nat.blt f 99 then (bif Nat.blt f 98 then ([(0, [0]), (1, [0]), (2, [4]), (4, [4]), (6, [4]), (8, [4]), (9, [4]), (11, [4]), (12, []), (10, []), (7, []), (5, []), (3, []), (13, [])]) else ([(0, [2, 1, 0]), (1, [2, 1, 0]), (2, []), (3, [0, 1]), (4, []), (5, [1, 0]), (6, []), (7, [0, 1]), (8, []), (9, [])])) else (bif Nat.blt f 100 then ([(0, [0, 1]), (1, [2, 1]), (2, [2, 5, 1]), (4, [1, 5, 2]), (6, [2, 5, 1]), (8, [1]), (9, []), (7, []), (5, []), (3, []), (10, [])]) else (bif Nat.blt f 101 then ([(0, [0]), (1, [0])]) else ([(0, [0]), (1, [0]), (2, []), (3, [0]), (4, [9, 8, 0, 10]), (5, [9, 8, 0, 10]), (6, [3, 4, 9, 8, 0, 10]), (8, [10, 0, 8, 9, 4, 3]), (10, [3, 4, 9, 8, 0, 10]), (11, []), (9, []), (7, []), (12, [10, 0, 8, 9]), (13, [])])))))) else (bif Nat.blt f 112 then (bif Nat.blt f 107 then (bif Nat.blt f 104 then (bif Nat.blt f 103 then ([(0, [0, 1, 2]), (1, [3, 1, 2]), (2, [3, 1, 2])]) else ([(0, [0, 1]), (1, [1, 2]), (2, [6, 1, 2, 5]), (3, []), (4, [5, 2, 1]), (5, []), (6, [1, 2, 5]), (7, [1, 2, 5]), (8, [1, 2, 5, 7]), (9, [7]), (10, [5, 2, 1]), (11, [2, 1]), (12, [1, 8]), (13, [8]), (14, [1]), (15, []), (16, [])])) else (bif Nat.blt f 105 then ([(0, [1, 0]), (1, [3, 0]), (2, [5, 3, 0, 6, 7]), (3, [7]), (4, [6, 0, 3, 5]), (5, [23, 6, 0, 3, 5]), (7, [6, 23, 5, 3, 0]), (15, [3, 0, 23, 5, 6]), (18, [6, 23, 0, 3, 5]), (21, [3, 0, 23, 6, 5]), (24, [6, 23, 5, 0, 3]), (31, [23, 5, 6, 3, 0]), (32, [5, 6, 3, 0]), (33, []), (34, [0, 3]), (35, [0, 3]), (36, [0, 3]), (37, [0, 3, 11]), (38, [11]), (25, [5, 0, 3]), (26, []), (27, [3, 0]), (28, [3, 0, 10]), (29, [10]), (30, [0, 3]), (22, [5]), (23, []), (19, [5]), (20, []), (16, [5, 6]), (17, []), (8, [5, 3, 0]), (9, [9, 8, 5, 3, 0]), (11, [0, 3, 5, 8]), (13, [8, 5]), (14, []), (12, []), (10, []), (6, [0, 3, 5]), (39, [])]) else (bif Nat.blt f 106 then ([(0, [1, 0, 2]), (1, [9, 8, 2, 0, 10]), (2, [9, 8, 2, 0, 10]), (3, [9, 8, 2, 0, 10, 7]), (4, [7, 10, 0, 2, 8, 9]), (5, [7, 10, 0, 2, 8, 9]), (6, [7, 10, 0, 2, 8, 9]), (7, [7, 10, 0, 2, 8, 9]), (8, [7, 10, 0, 2, 8, 9]), (9, [7, 10, 0, 2, 8, 9]), (10, [10, 0, 2, 8, 9])]) else ([(0, [0, 1]), (1, [0, 1]), (2, [1, 6, 0]), (4, [1, 6, 0]), (5, [6, 0]), (6, []), (7, [0, 6]), (3, [6, 0, 1]), (8, [])])))) else (bif Nat.blt f 109 then (bif Nat.blt f 108 then ([(0, [0]), (1, [1]), (2, [1, 3]), (3, [3])]) else ([(0, [0]), (1, [1])])) else (bif Nat.blt f 110 then ([(0, [0]), (1, [0])]) else (bif Nat.blt f 111 then ([(0, [0]), (1, [1]), (2, [3, 1]), (3, [7, 3, 1]), (4, [7, 3, 1]), (5, [7, 3, 1]), (6, [1]), (7, [1, 3]), (8, [3, 15, 13, 14]), (9, [3, 15, 13, 14]), (10, [3, 5, 15, 13, 14]), (11, [15, 3, 13, 14]), (12, [3])]) else ([(0, [0, 1]), (1, [2, 3, 4]), (2, [6, 2, 3, 4]), (3, [6, 2, 3, 4]), (4, [5, 6, 2, 3, 4]), (5, [6, 2, 3, 4]), (6, [2, 4])]))))) else (bif Nat.blt f 117 then (bif Nat.blt f 114 then (bif Nat.blt f 113 then ([(0, [0, 1]), (1, [2, 1, 4]), (2, [6, 2, 1, 4]), (3, [6, 2, 1, 4]), (4, [5, 6, 2, 1, 4]), (5, [6, 2, 1, 4]), (6, [2, 4])]) else ([(0, [1, 0])])) else (bif Nat.blt f 115 then ([(0, [0]), (1, [0])]) else (bif Nat.blt f 116 then ([(0, [0]), (1, [1]), (2, [3]), (3, [3, 4]), (4, [4, 5, 3]), (6, [4, 5, 3]), (7, [4, 5, 3]), (5, [5, 3, 4]), (8, [4])]) else ([(0, [0]), (1, [1]), (2, [1, 3]), (3, [3, 4, 1]), (5, [3, 4, 1]), (4, [4, 1, 3]), (6, [3])])))) else (bif Nat.blt f 120 then (bif Nat.blt f 118 then ([(0, [0]), (1, [0])]) else (bif Nat.blt f 119 then ([(0, [0]), (1, [1, 2]), (2, [1, 3, 2]), (3, [1, 3, 2]), (4, [1, 3, 2]), (5, [3, 2]), (6, [3, 2])]) else ([(0, [0, 1]), (1, [2, 3, 4])]))) else (bif Nat.blt f 121 then ([(0, [0, 1]), (1, [2, 3, 4])]) else (bif Nat.blt f 122 then ([(0, [1, 0]), (1, [0, 3, 4])]) else ([(0, [0]), (1, [0])]))))))) else (bif Nat.blt f 144 then (bif Nat.blt f 133 then (bif Nat.blt f 128 then (bif Nat.blt f 125 then (bif Nat.blt f 124 then ([(0, [0, 1]), (1, [2, 1]), (2, []), (3, [1, 2]), (4, []), (5, [2, 1]), (6, []), (7, [1]), (8, []), (9, [])]) else ([(0, [0]), (1, [0]), (3, [0]), (5, [0]), (6, []), (4, []), (2, []), (7, [])])) else (bif Nat.blt f 126 then ([(0, [0]), (1, [0]), (2, [0, 3]), (4, [0, 3]), (5, []), (3, [3, 0]), (6, [0])]) else (bif Nat.blt f 127 then ([(0, [0]), (1, [0])]) else ([(0, [0]), (1, [0]), (2, [6, 0]), (3, [7, 6, 0]), (4, [4, 6, 0, 3]), (5, [3]), (6, [0])])))) else (bif Nat.blt f 130 then (bif Nat.blt f 129 then ([(0, [0]), (1, [0]), (2, [3]), (3, [3]), (4, [3]), (5, [3]), (6, [3]), (7, [3]), (8, [3]), (9, [3]), (10, [3]), (11, [3]), (12, [3]), (13, [3]), (14, [3]), (15, [3]), (16, [3]), (17, [3]), (18, [3]), (19, [3]), (20, [3]), (21, [3]), (22, [3]), (23, [3]), (24, [3]), (25, [3]), (26, [3]), (27, []), (28, [])]) else ([(0, [0, 1]), (1, [0, 1])])) else (bif Nat.blt f 131 then ([(0, [0, 1]), (1, [2, 1])]) else (bif Nat.blt f 132 then ([(0, [0]), (1, [0, 2]), (2, [4, 2]), (3, [4, 2]), (5, [4, 2]), (7, [4, 2]), (8, [4, 2]), (10, [4, 2]), (12, [4, 2]), (14, [4, 2]), (15, [2]), (13, [2]), (11, [2]), (9, [2]), (6, [2]), (4, [2]), (16, [2])]) else ([(0, [0, 1]), (1, [3, 2]), (2, []), (3, [2]), (4, [68, 2]), (6, [68, 2]), (7, [2]), (5, [2]), (8, [])]))))) else (bif Nat.blt f 138 then (bif Nat.blt f 135 then (bif Nat.blt f 134 then ([(0, [1, 0]), (1, [0, 3, 5]), (2, []), (3, [5, 3, 0]), (4, [6, 5, 3, 0, 4]), (5, [3, 0, 4]), (6, [4, 5, 6])]) else ([(0, [1, 0]), (1, [3, 0]), (2, [0, 3]), (3, [0, 3])])) else (bif Nat.blt f 136 then ([(0, [0])]) else (bif Nat.blt f 137 then ([(0, [0, 1]), (1, [2, 1])]) else ([(0, [0]), (1, [1, 2]), (2, [3, 1, 2]), (3, [3, 1, 2]), (4, [11, 1, 9, 2, 10]), (5, [11, 1, 9, 2, 10]), (6, [5, 11, 1, 9, 2, 10]), (7, [11, 1, 9, 2, 10]), (8, [1, 2])])))) else (bif Nat.blt f 141 then (bif Nat.blt f 139 then ([(0, [1, 0])]) else (bif Nat.blt f 140 then ([(0, [0, 1]), (1, [1, 2]), (2, []), (3, [2, 1]), (4, [13, 12, 1, 14]), (5, [13, 12, 1, 14]), (6, [6, 13, 12, 1, 14]), (7, []), (8, [14, 1, 12, 13]), (9, [])]) else ([(0, [0]), (1, [0])]))) else (bif Nat.blt f 142 then ([(0, [0]), (1, [1]), (2, [3, 1]), (3, [1]), (4, [1, 3]), (5, [3, 4, 1]), (7, [3, 4, 1]), (6, [4, 1, 3]), (8, [3])]) else (bif Nat.blt f 143 then ([(0, [0]), (1, [0]), (2, []), (3, [0]), (4, [0, 3]), (6, [0, 3]), (7, []), (5, [3, 0]), (8, [])]) else ([(0, [0, 1]), (1, [0, 1]), (2, [7, 1, 0, 8]), (3, [7, 1, 0, 8]), (4, [7, 1, 0, 8, 5]), (5, [5]), (6, [8, 0, 1, 7]), (7, [])])))))) else (bif Nat.blt f 154 then (bif Nat.blt f 149 then (bif Nat.blt f 146 then (bif Nat.blt f 145 then ([(0, [0]), (1, [1])]) else ([(0, [0, 1]), (1, [1, 2]), (2, [1, 2]), (3, [7, 6]), (5, [6]), (6, []), (4, []), (7, [6]), (8, [1, 2]), (9, [8, 1, 2]), (10, [40, 2, 39, 1, 41, 8]), (11, [40, 2, 39, 1, 41, 8]), (12, [10, 40, 2, 39, 1, 41, 8]), (13, [40, 2, 39, 1, 41, 11, 8, 12]), (14, [12]), (15, [8, 11, 41, 1, 39, 2, 40]), (16, [41, 8, 1, 39, 2, 40]), (17, [2, 8]), (18, [2, 8]), (19, []), (20, []), (21, [2, 8]), (22, [8, 13, 14]), (23, [90, 14, 89, 13, 91]), (24, [90, 14, 89, 13, 91]), (25, [16, 90, 14, 89, 13, 91]), (26, []), (27, [91, 13, 89, 14, 90]), (28, [14])])) else (bif Nat.blt f 147 then ([(0, [1, 0]), (1, [0, 3]), (2, [3, 0]), (3, [3, 0]), (4, [21, 0, 19, 20]), (5, [21, 0, 19, 20]), (6, [5, 21, 0, 19, 20]), (7, [21, 0, 19, 20])]) else (bif Nat.blt f 148 then ([(0, [1, 0]), (1, [1, 0])]) else ([(0, [0]), (1, [0]), (2, [4]), (3, [4]), (4, [4]), (5, [4]), (6, [4]), (7, [4]), (8, [4]), (9, [4]), (10, [4]), (11, [4]), (13, [4]), (14, [4]), (15, [4]), (17, [4]), (18, [4]), (19, [4]), (21, [4]), (23, [4]), (24, [4]), (25, []), (22, []), (20, []), (16, []), (12, []), (26, [])])))) else ([])) else ([]))))

def okL : List Nat := [3, 4, 5, 6, 7, 8, 9, 10, 11, 12, 13, 14, 15, 16, 17, 18, 19, 20, 21, 22, 23, 24, 25, 26, 27, 28, 29, 30, 31, 32, 33, 34, 35, 36, 37, 38, 39, 40, 41, 42, 43, 44, 45, 46, 47, 48, 49, 50, 51, 52, 53, 54, 55, 56, 57, 58, 59, 60, 61, 62, 63, 64, 65, 66, 67, 68, 69, 70, 71, 72, 73, 74, 75, 76, 77, 78, 79, 80, 81, 82, 83, 84, 85, 86, 87, 88, 89, 90, 91, 92, 93, 94, 95, 96, 97, 98, 99, 100, 101, 102, 103, 104, 105, 106, 107, 108, 110, 111, 112, 113, 114, 115, 116, 117, 118, 119, 120, 121, 122, 123, 124, 125, 126, 127, 128, 129, 130, 131, 132, 133, 134, 135, 136, 137, 138, 139, 140, 141, 142, 143, 144, 145, 146, 147, 148]


def findL : Nat → List (Nat × List Nat) → Option (List Nat)
  | _, [] => none
  | r, (s, l) :: rest => bif Nat.beq r s then some l else findL r rest
def extL : List Nat := [8, 81]
noncomputable def C : ACtx := { P := Tryz.prog, esc := escT, own := fun f => [80, 49, 23, 32].contains f, live := fun f r => findL r (liveL f), ext := fun f => bif extL.contains f then some failFn else none }
@[go_sem] theorem C_P : C.P = Tryz.prog := by rfl
@[go_sem] theorem own_5 : C.own 5 = false := by rfl
@[go_sem] theorem own_7 : C.own 7 = false := by rfl
@[go_sem] theorem own_9 : C.own 9 = false := by rfl
@[go_sem] theorem own_13 : C.own 13 = false := by rfl
@[go_sem] theorem own_14 : C.own 14 = false := by rfl
@[go_sem] theorem own_16 : C.own 16 = false := by rfl
@[go_sem] theorem own_21 : C.own 21 = false := by rfl
@[go_sem] theorem own_22 : C.own 22 = false := by rfl
@[go_sem] theorem own_24 : C.own 24 = false := by rfl
@[go_sem] theorem own_25 : C.own 25 = false := by rfl
@[go_sem] theorem own_28 : C.own 28 = false := by rfl
@[go_sem] theorem own_34 : C.own 34 = false := by rfl
@[go_sem] theorem own_35 : C.own 35 = false := by rfl
@[go_sem] theorem own_37 : C.own 37 = false := by rfl
@[go_sem] theorem own_39 : C.own 39 = false := by rfl
@[go_sem] theorem own_41 : C.own 41 = false := by rfl
@[go_sem] theorem own_42 : C.own 42 = false := by rfl
@[go_sem] theorem own_46 : C.own 46 = false := by rfl
@[go_sem] theorem own_50 : C.own 50 = false := by rfl
@[go_sem] theorem own_51 : C.own 51 = false := by rfl
@[go_sem] theorem own_59 : C.own 59 = false := by rfl
@[go_sem] theorem own_60 : C.own 60 = false := by rfl
@[go_sem] theorem own_61 : C.own 61 = false := by rfl
@[go_sem] theorem own_62 : C.own 62 = false := by rfl
@[go_sem] theorem own_63 : C.own 63 = false := by rfl
@[go_sem] theorem own_65 : C.own 65 = false := by rfl
@[go_sem] theorem own_67 : C.own 67 = false := by rfl
@[go_sem] theorem own_70 : C.own 70 = false := by rfl
@[go_sem] theorem own_74 : C.own 74 = false := by rfl
@[go_sem] theorem own_75 : C.own 75 = false := by rfl
@[go_sem] theorem own_79 : C.own 79 = false := by rfl
@[go_sem] theorem own_82 : C.own 82 = false := by rfl
@[go_sem] theorem own_83 : C.own 83 = false := by rfl
@[go_sem] theorem own_90 : C.own 90 = false := by rfl
@[go_sem] theorem own_91 : C.own 91 = false := by rfl
@[go_sem] theorem own_92 : C.own 92 = false := by rfl
@[go_sem] theorem own_93 : C.own 93 = false := by rfl
@[go_sem] theorem own_94 : C.own 94 = false := by rfl
@[go_sem] theorem own_95 : C.own 95 = false := by rfl
@[go_sem] theorem own_99 : C.own 99 = false := by rfl
@[go_sem] theorem own_100 : C.own 100 = false := by rfl
@[go_sem] theorem own_101 : C.own 101 = false := by rfl
@[go_sem] theorem own_102 : C.own 102 = false := by rfl
@[go_sem] theorem own_103 : C.own 103 = false := by rfl
@[go_sem] theorem own_110 : C.own 110 = false := by rfl
@[go_sem] theorem own_111 : C.own 111 = false := by rfl
@[go_sem] theorem own_112 : C.own 112 = false := by rfl
@[go_sem] theorem own_122 : C.own 122 = false := by rfl
@[go_sem] theorem own_123 : C.own 123 = false := by rfl
@[go_sem] theorem own_124 : C.own 124 = false := by rfl
@[go_sem] theorem own_125 : C.own 125 = false := by rfl
@[go_sem] theorem own_126 : C.own 126 = false := by rfl
@[go_sem] theorem own_127 : C.own 127 = false := by rfl
@[go_sem] theorem own_128 : C.own 128 = false := by rfl
@[go_sem] theorem own_129 : C.own 129 = false := by rfl
@[go_sem] theorem own_130 : C.own 130 = false := by rfl
@[go_sem] theorem own_131 : C.own 131 = false := by rfl
@[go_sem] theorem own_132 : C.own 132 = false := by rfl
@[go_sem] theorem own_133 : C.own 133 = false := by rfl
@[go_sem] theorem own_134 : C.own 134 = false := by rfl
@[go_sem] theorem own_135 : C.own 135 = false := by rfl
@[go_sem] theorem own_142 : C.own 142 = false := by rfl
@[go_sem] theorem own_143 : C.own 143 = false := by rfl
@[go_sem] theorem own_144 : C.own 144 = false := by rfl
@[go_sem] theorem own_145 : C.own 145 = false := by rfl
@[go_sem] theorem own_146 : C.own 146 = false := by rfl
@[go_sem] theorem own_147 : C.own 147 = false := by rfl
@[go_sem] theorem own_148 : C.own 148 = false := by rfl
theorem allOk : okL.all (fnOk Tryz.prog) = true := by kernel_rfl
theorem okOf : ∀ f, okL.contains f = true → fnOk Tryz.prog f = true := fun f h => List.all_eq_true.1 allOk f (by simpa using h)
theorem ok (f : FuncId) (h : okL.contains f = true) : fnOk C.P f = true := okOf f h
@[go_sem] theorem esc_5 : C.esc 5 = [] := by kernel_rfl
@[go_sem] theorem live_5_0 : C.live 5 0 = some [0, 2, 1] := by kernel_rfl
@[go_sem] theorem live_5_1 : C.live 5 1 = some [3, 2, 1] := by kernel_rfl
@[go_sem] theorem live_5_2 : C.live 5 2 = some [] := by kernel_rfl
@[go_sem] theorem live_5_3 : C.live 5 3 = some [1, 2, 3] := by kernel_rfl
@[go_sem] theorem live_5_4 : C.live 5 4 = some [8, 7, 3] := by kernel_rfl
@[go_sem] theorem live_5_5 : C.live 5 5 = some [] := by kernel_rfl
@[go_sem] theorem live_5_6 : C.live 5 6 = some [3, 7] := by kernel_rfl
@[go_sem] theorem live_5_7 : C.live 5 7 = some [7, 9, 10] := by kernel_rfl
@[go_sem] theorem live_5_8 : C.live 5 8 = some [9, 11, 10, 12] := by kernel_rfl
@[go_sem] theorem esc_7 : C.esc 7 = [] := by kernel_rfl
@[go_sem] theorem live_7_0 : C.live 7 0 = some [0, 1] := by kernel_rfl
@[go_sem] theorem live_7_1 : C.live 7 1 = some [1, 2] := by kernel_rfl
@[go_sem] theorem live_7_2 : C.live 7 2 = some [] := by kernel_rfl
@[go_sem] theorem live_7_3 : C.live 7 3 = some [2, 1] := by kernel_rfl
@[go_sem] theorem live_7_4 : C.live 7 4 = some [1, 2, 5] := by kernel_rfl
@[go_sem] theorem live_7_6 : C.live 7 6 = some [1, 2, 5] := by kernel_rfl
@[go_sem] theorem live_7_7 : C.live 7 7 = some [] := by kernel_rfl
@[go_sem] theorem live_7_5 : C.live 7 5 = some [5, 2, 1] := by kernel_rfl
@[go_sem] theorem live_7_8 : C.live 7 8 = some [2, 1] := by kernel_rfl
@[go_sem] theorem esc_9 : C.esc 9 = [] := by kernel_rfl
@[go_sem] theorem live_9_0 : C.live 9 0 = some [0] := by kernel_rfl
@[go_sem] theorem live_9_1 : C.live 9 1 = some [1] := by kernel_rfl
@[go_sem] theorem live_9_2 : C.live 9 2 = some [] := by kernel_rfl
@[go_sem] theorem live_9_3 : C.live 9 3 = some [1] := by kernel_rfl
@[go_sem] theorem live_9_4 : C.live 9 4 = some [1, 3] := by kernel_rfl
@[go_sem] theorem live_9_5 : C.live 9 5 = some [1, 4, 3] := by kernel_rfl
@[go_sem] theorem live_9_6 : C.live 9 6 = some [3, 16, 4, 14, 15] := by kernel_rfl
@[go_sem] theorem live_9_7 : C.live 9 7 = some [3, 16, 4, 14, 15] := by kernel_rfl
@[go_sem] theorem live_9_8 : C.live 9 8 = some [3, 6, 16, 4, 14, 15] := by kernel_rfl
@[go_sem] theorem live_9_9 : C.live 9 9 = some [6, 3, 16, 4, 14, 15] := by kernel_rfl
@[go_sem] theorem live_9_10 : C.live 9 10 = some [3, 16, 4, 14, 15] := by kernel_rfl
@[go_sem] theorem live_9_11 : C.live 9 11 = some [16, 4, 3, 14, 15] := by kernel_rfl
@[go_sem] theorem live_9_12 : C.live 9 12 = some [3] := by kernel_rfl
@[go_sem] theorem esc_11 : C.esc 11 = [18] := by kernel_rfl
@[go_sem] theorem live_11_0 : C.live 11 0 = some [0] := by kernel_rfl
@[go_sem] theorem live_11_1 : C.live 11 1 = some [1, 2] := by kernel_rfl
@[go_sem] theorem live_11_2 : C.live 11 2 = some [1, 4, 2] := by kernel_rfl
@[go_sem] theorem live_11_3 : C.live 11 3 = some [4, 2] := by kernel_rfl
@[go_sem] theorem live_11_4 : C.live 11 4 = some [1, 2] := by kernel_rfl
@[go_sem] theorem live_11_5 : C.live 11 5 = some [1, 5, 2] := by kernel_rfl
@[go_sem] theorem live_11_6 : C.live 11 6 = some [2] := by kernel_rfl
@[go_sem] theorem live_11_7 : C.live 11 7 = some [5, 1, 2] := by kernel_rfl
@[go_sem] theorem live_11_8 : C.live 11 8 = some [5, 1, 2] := by kernel_rfl
@[go_sem] theorem live_11_9 : C.live 11 9 = some [5, 1, 2] := by kernel_rfl
@[go_sem] theorem live_11_10 : C.live 11 10 = some [1, 6, 2] := by kernel_rfl
@[go_sem] theorem live_11_11 : C.live 11 11 = some [48, 6, 46, 2, 47] := by kernel_rfl
@[go_sem] theorem live_11_12 : C.live 11 12 = some [48, 6, 46, 2, 47] := by kernel_rfl
@[go_sem] theorem live_11_13 : C.live 11 13 = some [8, 48, 6, 46, 2, 47] := by kernel_rfl
@[go_sem] theorem live_11_14 : C.live 11 14 = some [48, 6, 46, 2, 47] := by kernel_rfl
@[go_sem] theorem live_11_15 : C.live 11 15 = some [6, 2] := by kernel_rfl
@[go_sem] theorem esc_13 : C.esc 13 = [] := by kernel_rfl
@[go_sem] theorem live_13_0 : C.live 13 0 = some [0, 1] := by kernel_rfl
@[go_sem] theorem live_13_1 : C.live 13 1 = some [2, 3] := by kernel_rfl
@[go_sem] theorem live_13_3 : C.live 13 3 = some [3, 2] := by kernel_rfl
@[go_sem] theorem live_13_4 : C.live 13 4 = some [2, 3, 5] := by kernel_rfl
@[go_sem] theorem live_13_6 : C.live 13 6 = some [2, 3, 5] := by kernel_rfl
@[go_sem] theorem live_13_5 : C.live 13 5 = some [5, 3, 2] := by kernel_rfl
@[go_sem] theorem live_13_8 : C.live 13 8 = some [2, 3] := by kernel_rfl
@[go_sem] theorem esc_14 : C.esc 14 = [] := by kernel_rfl
@[go_sem] theorem live_14_0 : C.live 14 0 = some [0, 1, 2] := by kernel_rfl
@[go_sem] theorem live_14_1 : C.live 14 1 = some [1, 3, 2, 6] := by kernel_rfl
@[go_sem] theorem live_14_2 : C.live 14 2 = some [6] := by kernel_rfl
@[go_sem] theorem live_14_3 : C.live 14 3 = some [2, 3, 1, 6] := by kernel_rfl
@[go_sem] theorem live_14_4 : C.live 14 4 = some [6] := by kernel_rfl
@[go_sem] theorem live_14_5 : C.live 14 5 = some [1, 3, 2, 6] := by kernel_rfl
@[go_sem] theorem live_14_6 : C.live 14 6 = some [1, 8, 3, 2, 6] := by kernel_rfl
@[go_sem] theorem live_14_7 : C.live 14 7 = some [1, 8, 9, 3, 2, 6] := by kernel_rfl
@[go_sem] theorem live_14_8 : C.live 14 8 = some [9, 10, 1, 8, 3, 2, 6] := by kernel_rfl
@[go_sem] theorem live_14_10 : C.live 14 10 = some [9, 10, 1, 8, 3, 2, 6] := by kernel_rfl
@[go_sem] theorem live_14_9 : C.live 14 9 = some [10, 1, 8, 9, 3, 2, 6] := by kernel_rfl
@[go_sem] theorem live_14_11 : C.live 14 11 = some [9, 3, 2, 1, 6] := by kernel_rfl
@[go_sem] theorem live_14_12 : C.live 14 12 = some [6] := by kernel_rfl
@[go_sem] theorem live_14_13 : C.live 14 13 = some [1, 2, 3, 6] := by kernel_rfl
@[go_sem] theorem live_14_14 : C.live 14 14 = some [6] := by kernel_rfl
@[go_sem] theorem live_14_15 : C.live 14 15 = some [3, 2, 1, 6] := by kernel_rfl
@[go_sem] theorem live_14_16 : C.live 14 16 = some [11, 3, 2, 1, 6] := by kernel_rfl
@[go_sem] theorem live_14_17 : C.live 14 17 = some [12, 11, 3, 2, 1, 6] := by kernel_rfl
@[go_sem] theorem live_14_19 : C.live 14 19 = some [12, 11, 3, 2, 1, 6] := by kernel_rfl
@[go_sem] theorem live_14_18 : C.live 14 18 = some [12, 11, 3, 2, 1, 6] := by kernel_rfl
@[go_sem] theorem live_14_20 : C.live 14 20 = some [11, 6] := by kernel_rfl
@[go_sem] theorem live_16_0 : C.live 16 0 = some [1, 0] := by kernel_rfl
@[go_sem] theorem live_16_1 : C.live 16 1 = some [1, 0] := by kernel_rfl
@[go_sem] theorem live_16_2 : C.live 16 2 = some [1, 0, 5] := by kernel_rfl
@[go_sem] theorem live_16_3 : C.live 16 3 = some [5, 6, 1, 0] := by kernel_rfl
@[go_sem] theorem live_16_5 : C.live 16 5 = some [5, 6, 1, 0] := by kernel_rfl
@[go_sem] theorem live_16_6 : C.live 16 6 = some [5, 6, 1, 0] := by kernel_rfl
@[go_sem] theorem live_16_7 : C.live 16 7 = some [5, 6, 1, 0] := by kernel_rfl
@[go_sem] theorem live_16_8 : C.live 16 8 = some [5, 6, 1, 0] := by kernel_rfl
@[go_sem] theorem live_16_9 : C.live 16 9 = some [5, 6, 1, 0] := by kernel_rfl
@[go_sem] theorem live_16_4 : C.live 16 4 = some [6, 1, 0, 5] := by kernel_rfl
@[go_sem] theorem live_16_10 : C.live 16 10 = some [5] := by kernel_rfl
@[go_sem] theorem esc_21 : C.esc 21 = [] := by kernel_rfl
@[go_sem] theorem live_21_0 : C.live 21 0 = some [0, 1] := by kernel_rfl
@[go_sem] theorem live_21_1 : C.live 21 1 = some [0, 1] := by kernel_rfl
@[go_sem] theorem live_21_3 : C.live 21 3 = some [1, 0] := by kernel_rfl
@[go_sem] theorem live_21_4 : C.live 21 4 = some [0, 1, 5] := by kernel_rfl
@[go_sem] theorem live_21_6 : C.live 21 6 = some [0, 1, 5] := by kernel_rfl
@[go_sem] theorem live_21_5 : C.live 21 5 = some [5, 1, 0] := by kernel_rfl
@[go_sem] theorem live_21_8 : C.live 21 8 = some [] := by kernel_rfl
@[go_sem] theorem esc_22 : C.esc 22 = [] := by kernel_rfl
@[go_sem] theorem live_22_0 : C.live 22 0 = some [0] := by kernel_rfl
@[go_sem] theorem live_22_1 : C.live 22 1 = some [1] := by kernel_rfl
@[go_sem] theorem live_22_2 : C.live 22 2 = some [4] := by kernel_rfl
@[go_sem] theorem esc_23 : C.esc 23 = [] := by kernel_rfl
@[go_sem] theorem live_23_0 : C.live 23 0 = some [1, 0] := by kernel_rfl
@[go_sem] theorem live_23_1 : C.live 23 1 = some [1, 0] := by kernel_rfl
@[go_sem] theorem live_23_2 : C.live 23 2 = some [0, 9, 7, 8] := by kernel_rfl
@[go_sem] theorem live_23_3 : C.live 23 3 = some [0, 9, 7, 8] := by kernel_rfl
@[go_sem] theorem live_23_4 : C.live 23 4 = some [0, 6, 9, 7, 8] := by kernel_rfl
@[go_sem] theorem live_23_5 : C.live 23 5 = some [0, 6, 9, 7, 8] := by kernel_rfl
@[go_sem] theorem live_23_6 : C.live 23 6 = some [0, 6, 9, 7, 8] := by kernel_rfl
@[go_sem] theorem live_23_7 : C.live 23 7 = some [9, 0, 7, 8] := by kernel_rfl
@[go_sem] theorem live_23_8 : C.live 23 8 = some [0] := by kernel_rfl
@[go_sem] theorem esc_24 : C.esc 24 = [] := by kernel_rfl
@[go_sem] theorem live_24_0 : C.live 24 0 = some [0] := by kernel_rfl
@[go_sem] theorem live_24_1 : C.live 24 1 = some [1] := by kernel_rfl
@[go_sem] theorem live_24_2 : C.live 24 2 = some [4, 3, 1] := by kernel_rfl
@[go_sem] theorem live_24_3 : C.live 24 3 = some [] := by kernel_rfl
@[go_sem] theorem live_24_4 : C.live 24 4 = some [1, 3] := by kernel_rfl
@[go_sem] theorem live_24_5 : C.live 24 5 = some [1, 3, 5] := by kernel_rfl
@[go_sem] theorem live_24_6 : C.live 24 6 = some [5, 18, 3, 16, 17] := by kernel_rfl
@[go_sem] theorem live_24_7 : C.live 24 7 = some [5, 18, 3, 16, 17] := by kernel_rfl
@[go_sem] theorem live_24_8 : C.live 24 8 = some [5, 7, 18, 3, 16, 17] := by kernel_rfl
@[go_sem] theorem live_24_9 : C.live 24 9 = some [18, 3, 5, 16, 17] := by kernel_rfl
@[go_sem] theorem live_24_10 : C.live 24 10 = some [5] := by kernel_rfl
@[go_sem] theorem live_25_0 : C.live 25 0 = some [0, 1] := by kernel_rfl
@[go_sem] theorem live_25_1 : C.live 25 1 = some [0, 1] := by kernel_rfl
@[go_sem] theorem esc_27 : C.esc 27 = [] := by kernel_rfl
@[go_sem] theorem live_27_0 : C.live 27 0 = some [0] := by kernel_rfl
@[go_sem] theorem live_27_1 : C.live 27 1 = some [1] := by kernel_rfl
@[go_sem] theorem esc_28 : C.esc 28 = [] := by kernel_rfl
@[go_sem] theorem live_28_0 : C.live 28 0 = some [0] := by kernel_rfl
@[go_sem] theorem live_28_1 : C.live 28 1 = some [1] := by kernel_rfl
@[go_sem] theorem live_28_2 : C.live 28 2 = some [1, 3] := by kernel_rfl
@[go_sem] theorem live_28_3 : C.live 28 3 = some [3] := by kernel_rfl
@[go_sem] theorem live_28_4 : C.live 28 4 = some [1] := by kernel_rfl
@[go_sem] theorem live_28_5 : C.live 28 5 = some [4] := by kernel_rfl
@[go_sem] theorem live_28_7 : C.live 28 7 = some [4] := by kernel_rfl
@[go_sem] theorem live_28_8 : C.live 28 8 = some [4] := by kernel_rfl
@[go_sem] theorem live_28_9 : C.live 28 9 = some [4] := by kernel_rfl
@[go_sem] theorem live_28_10 : C.live 28 10 = some [] := by kernel_rfl
@[go_sem] theorem live_28_6 : C.live 28 6 = some [] := by kernel_rfl
@[go_sem] theorem live_28_11 : C.live 28 11 = some [] := by kernel_rfl
@[go_sem] theorem esc_29 : C.esc 29 = [] := by kernel_rfl
@[go_sem] theorem live_29_0 : C.live 29 0 = some [1, 0] := by kernel_rfl
@[go_sem] theorem live_29_1 : C.live 29 1 = some [8, 0, 6, 7] := by kernel_rfl
@[go_sem] theorem live_29_2 : C.live 29 2 = some [8, 0, 6, 7] := by kernel_rfl
@[go_sem] theorem live_29_3 : C.live 29 3 = some [5, 8, 0, 6, 7] := by kernel_rfl
@[go_sem] theorem live_29_4 : C.live 29 4 = some [8, 0, 6, 7] := by kernel_rfl
@[go_sem] theorem live_30_0 : C.live 30 0 = some [0, 1] := by kernel_rfl
@[go_sem] theorem esc_34 : C.esc 34 = [] := by kernel_rfl
@[go_sem] theorem live_34_0 : C.live 34 0 = some [0] := by kernel_rfl
@[go_sem] theorem live_34_1 : C.live 34 1 = some [1] := by kernel_rfl
@[go_sem] theorem live_34_2 : C.live 34 2 = some [] := by kernel_rfl
@[go_sem] theorem live_34_3 : C.live 34 3 = some [1] := by kernel_rfl
@[go_sem] theorem live_34_4 : C.live 34 4 = some [1, 3] := by kernel_rfl
@[go_sem] theorem live_34_5 : C.live 34 5 = some [3] := by kernel_rfl
@[go_sem] theorem live_34_6 : C.live 34 6 = some [1] := by kernel_rfl
@[go_sem] theorem live_34_7 : C.live 34 7 = some [4] := by kernel_rfl
@[go_sem] theorem live_34_8 : C.live 34 8 = some [4, 5] := by kernel_rfl
@[go_sem] theorem live_34_10 : C.live 34 10 = some [4, 5] := by kernel_rfl
@[go_sem] theorem live_34_11 : C.live 34 11 = some [4, 5] := by kernel_rfl
@[go_sem] theorem live_34_12 : C.live 34 12 = some [4, 5, 6] := by kernel_rfl
@[go_sem] theorem live_34_13 : C.live 34 13 = some [6] := by kernel_rfl
@[go_sem] theorem live_34_9 : C.live 34 9 = some [5, 4] := by kernel_rfl
@[go_sem] theorem live_34_14 : C.live 34 14 = some [4] := by kernel_rfl
@[go_sem] theorem live_34_15 : C.live 34 15 = some [] := by kernel_rfl
@[go_sem] theorem live_34_16 : C.live 34 16 = some [] := by kernel_rfl
@[go_sem] theorem live_35_0 : C.live 35 0 = some [0] := by kernel_rfl
@[go_sem] theorem live_35_1 : C.live 35 1 = some [0] := by kernel_rfl
@[go_sem] theorem esc_36 : C.esc 36 = [] := by kernel_rfl
@[go_sem] theorem live_36_0 : C.live 36 0 = some [0] := by kernel_rfl
@[go_sem] theorem live_36_1 : C.live 36 1 = some [1] := by kernel_rfl
@[go_sem] theorem live_36_2 : C.live 36 2 = some [1, 3] := by kernel_rfl
@[go_sem] theorem live_36_3 : C.live 36 3 = some [3, 4, 1] := by kernel_rfl
@[go_sem] theorem live_36_5 : C.live 36 5 = some [3, 4, 1] := by kernel_rfl
@[go_sem] theorem live_36_4 : C.live 36 4 = some [4, 1, 3] := by kernel_rfl
@[go_sem] theorem live_36_6 : C.live 36 6 = some [1, 3] := by kernel_rfl
@[go_sem] theorem live_36_7 : C.live 36 7 = some [5, 3] := by kernel_rfl
@[go_sem] theorem live_36_8 : C.live 36 8 = some [3, 6, 5] := by kernel_rfl
@[go_sem] theorem live_36_10 : C.live 36 10 = some [3, 6, 5] := by kernel_rfl
@[go_sem] theorem live_36_11 : C.live 36 11 = some [3, 6, 5] := by kernel_rfl
@[go_sem] theorem live_36_9 : C.live 36 9 = some [6, 5, 3] := by kernel_rfl
@[go_sem] theorem live_36_12 : C.live 36 12 = some [3] := by kernel_rfl
@[go_sem] theorem esc_37 : C.esc 37 = [] := by kernel_rfl
@[go_sem] theorem live_37_0 : C.live 37 0 = some [0, 1] := by kernel_rfl
@[go_sem] theorem live_37_1 : C.live 37 1 = some [1, 2] := by kernel_rfl
@[go_sem] theorem live_37_2 : C.live 37 2 = some [2, 1, 5] := by kernel_rfl
@[go_sem] theorem live_37_4 : C.live 37 4 = some [2, 1, 5] := by kernel_rfl
@[go_sem] theorem live_37_5 : C.live 37 5 = some [] := by kernel_rfl
@[go_sem] theorem live_37_3 : C.live 37 3 = some [5, 1, 2] := by kernel_rfl
@[go_sem] theorem live_37_6 : C.live 37 6 = some [2, 1] := by kernel_rfl
@[go_sem] theorem live_37_7 : C.live 37 7 = some [1, 6] := by kernel_rfl
@[go_sem] theorem live_37_8 : C.live 37 8 = some [6, 1, 7] := by kernel_rfl
@[go_sem] theorem live_37_10 : C.live 37 10 = some [6, 1, 7] := by kernel_rfl
@[go_sem] theorem live_37_11 : C.live 37 11 = some [] := by kernel_rfl
@[go_sem] theorem live_37_9 : C.live 37 9 = some [7, 1, 6] := by kernel_rfl
@[go_sem] theorem live_37_12 : C.live 37 12 = some [] := by kernel_rfl
@[go_sem] theorem esc_38 : C.esc 38 = [] := by kernel_rfl
@[go_sem] theorem live_38_0 : C.live 38 0 = some [2, 1, 0] := by kernel_rfl
@[go_sem] theorem live_38_1 : C.live 38 1 = some [2, 1, 0] := by kernel_rfl
@[go_sem] theorem live_38_2 : C.live 38 2 = some [7, 2, 1, 0] := by kernel_rfl
@[go_sem] theorem live_38_3 : C.live 38 3 = some [7, 8, 2, 1, 0] := by kernel_rfl
@[go_sem] theorem live_38_5 : C.live 38 5 = some [7, 8, 2, 1, 0] := by kernel_rfl
@[go_sem] theorem live_38_6 : C.live 38 6 = some [7, 9, 8, 2, 1, 0] := by kernel_rfl
@[go_sem] theorem live_38_7 : C.live 38 7 = some [7, 9, 8, 2, 1, 0] := by kernel_rfl
@[go_sem] theorem live_38_8 : C.live 38 8 = some [7, 9, 8, 2, 1, 0] := by kernel_rfl
@[go_sem] theorem live_38_9 : C.live 38 9 = some [7, 9, 8, 2, 1, 0] := by kernel_rfl
@[go_sem] theorem live_38_10 : C.live 38 10 = some [7, 9, 8, 2, 1, 0] := by kernel_rfl
@[go_sem] theorem live_38_11 : C.live 38 11 = some [7, 9, 8, 2, 1, 0] := by kernel_rfl
@[go_sem] theorem live_38_4 : C.live 38 4 = some [8, 7, 2, 1, 0] := by kernel_rfl
@[go_sem] theorem live_38_12 : C.live 38 12 = some [7] := by kernel_rfl
@[go_sem] theorem live_39_0 : C.live 39 0 = some [1, 0, 2] := by kernel_rfl
@[go_sem] theorem live_39_1 : C.live 39 1 = some [1, 0, 2] := by kernel_rfl
@[go_sem] theorem live_39_2 : C.live 39 2 = some [2] := by kernel_rfl
@[go_sem] theorem live_39_3 : C.live 39 3 = some [0] := by kernel_rfl
@[go_sem] theorem esc_41 : C.esc 41 = [] := by kernel_rfl
@[go_sem] theorem live_41_0 : C.live 41 0 = some [0, 1] := by kernel_rfl
@[go_sem] theorem live_41_1 : C.live 41 1 = some [1, 2] := by kernel_rfl
@[go_sem] theorem live_41_2 : C.live 41 2 = some [5, 1, 2] := by kernel_rfl
@[go_sem] theorem live_41_3 : C.live 41 3 = some [5, 6, 1, 2] := by kernel_rfl
@[go_sem] theorem live_41_5 : C.live 41 5 = some [5, 6, 1, 2] := by kernel_rfl
@[go_sem] theorem live_41_4 : C.live 41 4 = some [6, 5, 1, 2] := by kernel_rfl
@[go_sem] theorem live_41_6 : C.live 41 6 = some [5] := by kernel_rfl
@[go_sem] theorem esc_42 : C.esc 42 = [] := by kernel_rfl
@[go_sem] theorem live_42_0 : C.live 42 0 = some [0] := by kernel_rfl
@[go_sem] theorem live_42_1 : C.live 42 1 = some [1] := by kernel_rfl
@[go_sem] theorem esc_43 : C.esc 43 = [] := by kernel_rfl
@[go_sem] theorem live_43_0 : C.live 43 0 = some [1, 0] := by kernel_rfl
@[go_sem] theorem live_43_1 : C.live 43 1 = some [0, 3] := by kernel_rfl
@[go_sem] theorem live_43_2 : C.live 43 2 = some [10, 0, 3] := by kernel_rfl
@[go_sem] theorem live_43_5 : C.live 43 5 = some [10, 0, 3] := by kernel_rfl
@[go_sem] theorem live_43_8 : C.live 43 8 = some [10, 3, 0] := by kernel_rfl
@[go_sem] theorem live_43_9 : C.live 43 9 = some [3, 0] := by kernel_rfl
@[go_sem] theorem live_43_10 : C.live 43 10 = some [0, 5] := by kernel_rfl
@[go_sem] theorem live_43_11 : C.live 43 11 = some [5] := by kernel_rfl
@[go_sem] theorem live_43_6 : C.live 43 6 = some [0, 3] := by kernel_rfl
@[go_sem] theorem live_43_7 : C.live 43 7 = some [] := by kernel_rfl
@[go_sem] theorem live_43_3 : C.live 43 3 = some [0, 3] := by kernel_rfl
@[go_sem] theorem live_43_4 : C.live 43 4 = some [] := by kernel_rfl
@[go_sem] theorem live_43_12 : C.live 43 12 = some [0, 3] := by kernel_rfl
@[go_sem] theorem live_43_13 : C.live 43 13 = some [6, 0, 3] := by kernel_rfl
@[go_sem] theorem live_43_14 : C.live 43 14 = some [6, 46, 0, 44, 3, 45] := by kernel_rfl
@[go_sem] theorem live_43_15 : C.live 43 15 = some [6, 46, 0, 44, 3, 45] := by kernel_rfl
@[go_sem] theorem live_43_16 : C.live 43 16 = some [8, 6, 46, 0, 44, 3, 45] := by kernel_rfl
@[go_sem] theorem live_43_17 : C.live 43 17 = some [46, 6, 0, 44, 3, 45] := by kernel_rfl
@[go_sem] theorem live_43_18 : C.live 43 18 = some [0, 3, 6] := by kernel_rfl
@[go_sem] theorem live_43_19 : C.live 43 19 = some [6] := by kernel_rfl
@[go_sem] theorem esc_44 : C.esc 44 = [21] := by kernel_rfl
@[go_sem] theorem live_44_0 : C.live 44 0 = some [0] := by kernel_rfl
@[go_sem] theorem live_44_1 : C.live 44 1 = some [1] := by kernel_rfl
@[go_sem] theorem live_44_2 : C.live 44 2 = some [1, 4] := by kernel_rfl
@[go_sem] theorem live_44_3 : C.live 44 3 = some [4] := by kernel_rfl
@[go_sem] theorem live_44_4 : C.live 44 4 = some [1] := by kernel_rfl
@[go_sem] theorem live_44_5 : C.live 44 5 = some [5, 1] := by kernel_rfl
@[go_sem] theorem live_44_6 : C.live 44 6 = some [24, 1, 23, 5, 25] := by kernel_rfl
@[go_sem] theorem live_44_7 : C.live 44 7 = some [24, 1, 23, 5, 25] := by kernel_rfl
@[go_sem] theorem live_44_8 : C.live 44 8 = some [24, 1, 23, 5, 25, 7] := by kernel_rfl
@[go_sem] theorem live_44_9 : C.live 44 9 = some [] := by kernel_rfl
@[go_sem] theorem live_44_10 : C.live 44 10 = some [7, 25, 5, 23, 1, 24] := by kernel_rfl
@[go_sem] theorem live_44_11 : C.live 44 11 = some [25, 5, 23, 1, 24] := by kernel_rfl
@[go_sem] theorem live_44_12 : C.live 44 12 = some [1, 5] := by kernel_rfl
@[go_sem] theorem live_44_13 : C.live 44 13 = some [8, 1, 5] := by kernel_rfl
@[go_sem] theorem live_44_14 : C.live 44 14 = some [42, 5, 1, 41, 8, 43] := by kernel_rfl
@[go_sem] theorem live_44_15 : C.live 44 15 = some [42, 5, 1, 41, 8, 43] := by kernel_rfl
@[go_sem] theorem live_44_16 : C.live 44 16 = some [42, 5, 1, 41, 8, 43, 10] := by kernel_rfl
@[go_sem] theorem live_44_17 : C.live 44 17 = some [] := by kernel_rfl
@[go_sem] theorem live_44_18 : C.live 44 18 = some [10, 43, 8, 41, 1, 5, 42] := by kernel_rfl
@[go_sem] theorem live_44_19 : C.live 44 19 = some [43, 8, 41, 1, 5, 42] := by kernel_rfl
@[go_sem] theorem live_44_20 : C.live 44 20 = some [1, 5] := by kernel_rfl
@[go_sem] theorem live_44_21 : C.live 44 21 = some [5, 11] := by kernel_rfl
@[go_sem] theorem esc_45 : C.esc 45 = [3] := by kernel_rfl
@[go_sem] theorem live_45_0 : C.live 45 0 = some [0] := by kernel_rfl
@[go_sem] theorem live_45_1 : C.live 45 1 = some [1] := by kernel_rfl
@[go_sem] theorem live_45_2 : C.live 45 2 = some [3, 1] := by kernel_rfl
@[go_sem] theorem live_45_3 : C.live 45 3 = some [9, 3, 7, 1, 8] := by kernel_rfl
@[go_sem] theorem live_45_4 : C.live 45 4 = some [9, 3, 7, 1, 8] := by kernel_rfl
@[go_sem] theorem live_45_5 : C.live 45 5 = some [5, 9, 3, 7, 1, 8] := by kernel_rfl
@[go_sem] theorem live_45_6 : C.live 45 6 = some [9, 3, 7, 1, 8] := by kernel_rfl
@[go_sem] theorem live_45_7 : C.live 45 7 = some [1, 3] := by kernel_rfl
@[go_sem] theorem live_45_8 : C.live 45 8 = some [3] := by kernel_rfl
@[go_sem] theorem live_46_0 : C.live 46 0 = some [0, 1] := by kernel_rfl
@[go_sem] theorem live_46_1 : C.live 46 1 = some [0, 1] := by kernel_rfl
@[go_sem] theorem live_46_2 : C.live 46 2 = some [7, 1, 0, 8] := by kernel_rfl
@[go_sem] theorem live_46_3 : C.live 46 3 = some [7, 1, 0, 8] := by kernel_rfl
@[go_sem] theorem live_46_4 : C.live 46 4 = some [7, 1, 0, 8, 5] := by kernel_rfl
@[go_sem] theorem live_46_5 : C.live 46 5 = some [5] := by kernel_rfl
@[go_sem] theorem live_46_6 : C.live 46 6 = some [8, 0, 1, 7] := by kernel_rfl
@[go_sem] theorem live_46_7 : C.live 46 7 = some [] := by kernel_rfl
@[go_sem] theorem live_49_0 : C.live 49 0 = some [2, 1, 0] := by kernel_rfl
@[go_sem] theorem live_49_1 : C.live 49 1 = some [2, 1, 0] := by kernel_rfl
@[go_sem] theorem live_49_2 : C.live 49 2 = some [0, 7, 2, 1] := by kernel_rfl
@[go_sem] theorem live_49_4 : C.live 49 4 = some [0, 7, 2, 1] := by kernel_rfl
@[go_sem] theorem live_49_5 : C.live 49 5 = some [0, 7, 2, 1] := by kernel_rfl
@[go_sem] theorem live_49_6 : C.live 49 6 = some [0, 7, 2, 1] := by kernel_rfl
@[go_sem] theorem live_49_7 : C.live 49 7 = some [0, 7, 2, 1] := by kernel_rfl
@[go_sem] theorem live_49_8 : C.live 49 8 = some [0, 7, 2, 1] := by kernel_rfl
@[go_sem] theorem live_49_9 : C.live 49 9 = some [0, 7, 2, 1] := by kernel_rfl
@[go_sem] theorem live_49_10 : C.live 49 10 = some [0, 7, 2, 1] := by kernel_rfl
@[go_sem] theorem live_49_3 : C.live 49 3 = some [7, 2, 1, 0] := by kernel_rfl
@[go_sem] theorem live_49_11 : C.live 49 11 = some [0] := by kernel_rfl
@[go_sem] theorem esc_50 : C.esc 50 = [] := by kernel_rfl
@[go_sem] theorem live_50_0 : C.live 50 0 = some [0] := by kernel_rfl
@[go_sem] theorem live_50_1 : C.live 50 1 = some [1] := by kernel_rfl
@[go_sem] theorem live_50_2 : C.live 50 2 = some [1, 3] := by kernel_rfl
@[go_sem] theorem live_50_3 : C.live 50 3 = some [3] := by kernel_rfl
@[go_sem] theorem live_50_4 : C.live 50 4 = some [1] := by kernel_rfl
@[go_sem] theorem live_50_5 : C.live 50 5 = some [6] := by kernel_rfl
@[go_sem] theorem live_50_6 : C.live 50 6 = some [] := by kernel_rfl
@[go_sem] theorem live_50_7 : C.live 50 7 = some [] := by kernel_rfl
@[go_sem] theorem esc_51 : C.esc 51 = [] := by kernel_rfl
@[go_sem] theorem live_51_0 : C.live 51 0 = some [0] := by kernel_rfl
@[go_sem] theorem live_51_1 : C.live 51 1 = some [0, 2] := by kernel_rfl
@[go_sem] theorem live_51_2 : C.live 51 2 = some [0, 3, 2] := by kernel_rfl
@[go_sem] theorem live_51_3 : C.live 51 3 = some [8, 3, 6, 2, 7] := by kernel_rfl
@[go_sem] theorem live_51_4 : C.live 51 4 = some [8, 3, 6, 2, 7] := by kernel_rfl
@[go_sem] theorem live_51_5 : C.live 51 5 = some [5, 8, 3, 6, 2, 7] := by kernel_rfl
@[go_sem] theorem live_51_6 : C.live 51 6 = some [8, 3, 6, 2, 7] := by kernel_rfl
@[go_sem] theorem live_51_7 : C.live 51 7 = some [3, 2] := by kernel_rfl
@[go_sem] theorem esc_52 : C.esc 52 = [] := by kernel_rfl
@[go_sem] theorem live_52_0 : C.live 52 0 = some [1, 0] := by kernel_rfl
@[go_sem] theorem live_52_1 : C.live 52 1 = some [0, 3] := by kernel_rfl
@[go_sem] theorem live_52_2 : C.live 52 2 = some [0, 3] := by kernel_rfl
@[go_sem] theorem live_52_3 : C.live 52 3 = some [0, 3] := by kernel_rfl
@[go_sem] theorem live_52_4 : C.live 52 4 = some [0, 3] := by kernel_rfl
@[go_sem] theorem live_52_5 : C.live 52 5 = some [0, 3] := by kernel_rfl
@[go_sem] theorem live_52_6 : C.live 52 6 = some [22, 0, 3] := by kernel_rfl
@[go_sem] theorem live_52_7 : C.live 52 7 = some [22, 0, 3] := by kernel_rfl
@[go_sem] theorem live_52_9 : C.live 52 9 = some [22, 3, 0] := by kernel_rfl
@[go_sem] theorem live_52_12 : C.live 52 12 = some [22, 3, 0] := by kernel_rfl
@[go_sem] theorem live_52_14 : C.live 52 14 = some [3, 22, 0] := by kernel_rfl
@[go_sem] theorem live_52_16 : C.live 52 16 = some [22, 0, 3] := by kernel_rfl
@[go_sem] theorem live_52_18 : C.live 52 18 = some [22, 0, 3] := by kernel_rfl
@[go_sem] theorem live_52_19 : C.live 52 19 = some [0, 3] := by kernel_rfl
@[go_sem] theorem live_52_17 : C.live 52 17 = some [0, 3] := by kernel_rfl
@[go_sem] theorem live_52_15 : C.live 52 15 = some [0] := by kernel_rfl
@[go_sem] theorem live_52_13 : C.live 52 13 = some [0] := by kernel_rfl
@[go_sem] theorem live_52_10 : C.live 52 10 = some [3, 0] := by kernel_rfl
@[go_sem] theorem live_52_11 : C.live 52 11 = some [0] := by kernel_rfl
@[go_sem] theorem live_52_8 : C.live 52 8 = some [0, 3] := by kernel_rfl
@[go_sem] theorem esc_53 : C.esc 53 = [] := by kernel_rfl
@[go_sem] theorem live_53_0 : C.live 53 0 = some [1, 0] := by kernel_rfl
@[go_sem] theorem live_53_1 : C.live 53 1 = some [3, 0] := by kernel_rfl
@[go_sem] theorem live_53_2 : C.live 53 2 = some [0] := by kernel_rfl
@[go_sem] theorem esc_59 : C.esc 59 = [] := by kernel_rfl
@[go_sem] theorem live_59_0 : C.live 59 0 = some [0] := by kernel_rfl
@[go_sem] theorem live_59_1 : C.live 59 1 = some [0] := by kernel_rfl
@[go_sem] theorem live_59_2 : C.live 59 2 = some [] := by kernel_rfl
@[go_sem] theorem live_59_3 : C.live 59 3 = some [0] := by kernel_rfl
@[go_sem] theorem live_59_4 : C.live 59 4 = some [3, 0] := by kernel_rfl
@[go_sem] theorem live_59_6 : C.live 59 6 = some [3, 0] := by kernel_rfl
@[go_sem] theorem live_59_7 : C.live 59 7 = some [] := by kernel_rfl
@[go_sem] theorem live_59_8 : C.live 59 8 = some [0, 3] := by kernel_rfl
@[go_sem] theorem live_59_9 : C.live 59 9 = some [] := by kernel_rfl
@[go_sem] theorem live_59_10 : C.live 59 10 = some [3, 0] := by kernel_rfl
@[go_sem] theorem live_59_11 : C.live 59 11 = some [0, 3, 4] := by kernel_rfl
@[go_sem] theorem live_59_13 : C.live 59 13 = some [0, 3, 4] := by kernel_rfl
@[go_sem] theorem live_59_14 : C.live 59 14 = some [] := by kernel_rfl
@[go_sem] theorem live_59_12 : C.live 59 12 = some [4, 3, 0] := by kernel_rfl
@[go_sem] theorem live_59_5 : C.live 59 5 = some [3, 0] := by kernel_rfl
@[go_sem] theorem live_59_15 : C.live 59 15 = some [] := by kernel_rfl
@[go_sem] theorem esc_60 : C.esc 60 = [] := by kernel_rfl
@[go_sem] theorem live_60_0 : C.live 60 0 = some [0, 1] := by kernel_rfl
@[go_sem] theorem live_60_1 : C.live 60 1 = some [2, 1] := by kernel_rfl
@[go_sem] theorem live_60_2 : C.live 60 2 = some [6, 9, 10, 5, 8, 2, 1, 7] := by kernel_rfl
@[go_sem] theorem live_60_3 : C.live 60 3 = some [] := by kernel_rfl
@[go_sem] theorem live_60_4 : C.live 60 4 = some [7, 1, 2, 8, 5] := by kernel_rfl
@[go_sem] theorem live_60_5 : C.live 60 5 = some [] := by kernel_rfl
@[go_sem] theorem live_60_6 : C.live 60 6 = some [5, 8, 2, 1, 7] := by kernel_rfl
@[go_sem] theorem live_60_7 : C.live 60 7 = some [] := by kernel_rfl
@[go_sem] theorem live_60_8 : C.live 60 8 = some [7, 1, 2, 8] := by kernel_rfl
@[go_sem] theorem live_60_9 : C.live 60 9 = some [1, 2, 8] := by kernel_rfl
@[go_sem] theorem live_60_10 : C.live 60 10 = some [1, 2, 8, 11] := by kernel_rfl
@[go_sem] theorem live_60_11 : C.live 60 11 = some [11] := by kernel_rfl
@[go_sem] theorem live_60_12 : C.live 60 12 = some [8, 2, 1] := by kernel_rfl
@[go_sem] theorem live_60_13 : C.live 60 13 = some [2, 1] := by kernel_rfl
@[go_sem] theorem live_60_14 : C.live 60 14 = some [1, 12] := by kernel_rfl
@[go_sem] theorem live_60_15 : C.live 60 15 = some [12] := by kernel_rfl
@[go_sem] theorem live_60_16 : C.live 60 16 = some [1] := by kernel_rfl
@[go_sem] theorem live_60_17 : C.live 60 17 = some [] := by kernel_rfl
@[go_sem] theorem live_60_18 : C.live 60 18 = some [] := by kernel_rfl
@[go_sem] theorem live_61_0 : C.live 61 0 = some [0] := by kernel_rfl
@[go_sem] theorem live_61_1 : C.live 61 1 = some [0] := by kernel_rfl
@[go_sem] theorem live_62_0 : C.live 62 0 = some [1, 0] := by kernel_rfl
@[go_sem] theorem live_62_1 : C.live 62 1 = some [1, 0] := by kernel_rfl
@[go_sem] theorem live_62_2 : C.live 62 2 = some [1, 0] := by kernel_rfl
@[go_sem] theorem live_62_3 : C.live 62 3 = some [1] := by kernel_rfl
@[go_sem] theorem live_63_0 : C.live 63 0 = some [0] := by kernel_rfl
@[go_sem] theorem live_63_1 : C.live 63 1 = some [0] := by kernel_rfl
@[go_sem] theorem esc_64 : C.esc 64 = [] := by kernel_rfl
@[go_sem] theorem live_64_0 : C.live 64 0 = some [0, 2, 1] := by kernel_rfl
@[go_sem] theorem live_64_1 : C.live 64 1 = some [2, 1, 3, 6] := by kernel_rfl
@[go_sem] theorem live_64_2 : C.live 64 2 = some [7, 2, 1, 3, 6] := by kernel_rfl
@[go_sem] theorem live_64_3 : C.live 64 3 = some [7, 2, 1, 3, 6] := by kernel_rfl
@[go_sem] theorem live_64_4 : C.live 64 4 = some [7, 2, 1, 3, 6] := by kernel_rfl
@[go_sem] theorem live_64_5 : C.live 64 5 = some [8, 7, 2, 1, 3, 6] := by kernel_rfl
@[go_sem] theorem live_64_7 : C.live 64 7 = some [8, 7, 2, 1, 3, 6] := by kernel_rfl
@[go_sem] theorem live_64_6 : C.live 64 6 = some [8, 7, 2, 1, 3, 6] := by kernel_rfl
@[go_sem] theorem live_64_8 : C.live 64 8 = some [7, 6] := by kernel_rfl
@[go_sem] theorem esc_65 : C.esc 65 = [] := by kernel_rfl
@[go_sem] theorem live_65_0 : C.live 65 0 = some [0] := by kernel_rfl
@[go_sem] theorem live_65_1 : C.live 65 1 = some [1] := by kernel_rfl
@[go_sem] theorem esc_67 : C.esc 67 = [] := by kernel_rfl
@[go_sem] theorem live_67_0 : C.live 67 0 = some [0, 1] := by kernel_rfl
@[go_sem] theorem live_67_1 : C.live 67 1 = some [1, 2] := by kernel_rfl
@[go_sem] theorem live_67_2 : C.live 67 2 = some [1, 2, 5] := by kernel_rfl
@[go_sem] theorem live_67_3 : C.live 67 3 = some [5] := by kernel_rfl
@[go_sem] theorem live_67_4 : C.live 67 4 = some [2, 1] := by kernel_rfl
@[go_sem] theorem live_67_5 : C.live 67 5 = some [17, 16, 1, 18] := by kernel_rfl
@[go_sem] theorem live_67_6 : C.live 67 6 = some [17, 16, 1, 18] := by kernel_rfl
@[go_sem] theorem live_67_7 : C.live 67 7 = some [7, 17, 16, 1, 18] := by kernel_rfl
@[go_sem] theorem live_67_8 : C.live 67 8 = some [17, 16, 1, 18, 8] := by kernel_rfl
@[go_sem] theorem live_67_9 : C.live 67 9 = some [8] := by kernel_rfl
@[go_sem] theorem live_67_10 : C.live 67 10 = some [18, 1, 16, 17] := by kernel_rfl
@[go_sem] theorem live_67_11 : C.live 67 11 = some [] := by kernel_rfl
@[go_sem] theorem live_68_0 : C.live 68 0 = some [1, 0] := by kernel_rfl
@[go_sem] theorem live_68_1 : C.live 68 1 = some [1, 0] := by kernel_rfl
@[go_sem] theorem live_68_2 : C.live 68 2 = some [] := by kernel_rfl
@[go_sem] theorem live_68_3 : C.live 68 3 = some [0, 1] := by kernel_rfl
@[go_sem] theorem live_69_0 : C.live 69 0 = some [0, 1, 2] := by kernel_rfl
@[go_sem] theorem esc_70 : C.esc 70 = [3] := by kernel_rfl
@[go_sem] theorem live_70_0 : C.live 70 0 = some [0] := by kernel_rfl
@[go_sem] theorem live_70_1 : C.live 70 1 = some [1] := by kernel_rfl
@[go_sem] theorem live_70_2 : C.live 70 2 = some [] := by kernel_rfl
@[go_sem] theorem live_70_3 : C.live 70 3 = some [1] := by kernel_rfl
@[go_sem] theorem live_70_4 : C.live 70 4 = some [1, 3] := by kernel_rfl
@[go_sem] theorem live_70_5 : C.live 70 5 = some [3] := by kernel_rfl
@[go_sem] theorem live_70_6 : C.live 70 6 = some [1, 3] := by kernel_rfl
@[go_sem] theorem live_70_7 : C.live 70 7 = some [4, 3] := by kernel_rfl
@[go_sem] theorem live_70_8 : C.live 70 8 = some [] := by kernel_rfl
@[go_sem] theorem live_70_9 : C.live 70 9 = some [3] := by kernel_rfl
@[go_sem] theorem live_71_0 : C.live 71 0 = some [0, 1, 2] := by kernel_rfl
@[go_sem] theorem live_71_1 : C.live 71 1 = some [0, 1, 2] := by kernel_rfl
@[go_sem] theorem esc_72 : C.esc 72 = [] := by kernel_rfl
@[go_sem] theorem live_72_0 : C.live 72 0 = some [0, 1] := by kernel_rfl
@[go_sem] theorem live_72_1 : C.live 72 1 = some [0, 1] := by kernel_rfl
@[go_sem] theorem live_72_2 : C.live 72 2 = some [11, 1, 10, 0, 12] := by kernel_rfl
@[go_sem] theorem live_72_3 : C.live 72 3 = some [11, 1, 10, 0, 12] := by kernel_rfl
@[go_sem] theorem live_72_4 : C.live 72 4 = some [6, 11, 1, 10, 0, 12] := by kernel_rfl
@[go_sem] theorem live_72_5 : C.live 72 5 = some [11, 1, 10, 0, 12, 7] := by kernel_rfl
@[go_sem] theorem live_72_6 : C.live 72 6 = some [7] := by kernel_rfl
@[go_sem] theorem live_72_7 : C.live 72 7 = some [12, 0, 10, 1, 11] := by kernel_rfl
@[go_sem] theorem live_72_8 : C.live 72 8 = some [1, 0] := by kernel_rfl
@[go_sem] theorem live_72_9 : C.live 72 9 = some [25, 0, 23, 24] := by kernel_rfl
@[go_sem] theorem live_72_10 : C.live 72 10 = some [25, 0, 23, 24] := by kernel_rfl
@[go_sem] theorem live_72_11 : C.live 72 11 = some [9, 25, 0, 23, 24] := by kernel_rfl
@[go_sem] theorem live_72_12 : C.live 72 12 = some [9, 25, 0, 23, 24] := by kernel_rfl
@[go_sem] theorem live_72_13 : C.live 72 13 = some [25, 0, 23, 24] := by kernel_rfl
@[go_sem] theorem live_72_14 : C.live 72 14 = some [] := by kernel_rfl
@[go_sem] theorem esc_73 : C.esc 73 = [11] := by kernel_rfl
@[go_sem] theorem live_73_0 : C.live 73 0 = some [0, 1, 2] := by kernel_rfl
@[go_sem] theorem live_73_1 : C.live 73 1 = some [1, 2, 3] := by kernel_rfl
@[go_sem] theorem live_73_2 : C.live 73 2 = some [3, 7] := by kernel_rfl
@[go_sem] theorem live_73_3 : C.live 73 3 = some [7] := by kernel_rfl
@[go_sem] theorem esc_74 : C.esc 74 = [] := by kernel_rfl
@[go_sem] theorem live_74_0 : C.live 74 0 = some [0, 2] := by kernel_rfl
@[go_sem] theorem live_74_1 : C.live 74 1 = some [3, 2] := by kernel_rfl
@[go_sem] theorem live_74_2 : C.live 74 2 = some [3, 2] := by kernel_rfl
@[go_sem] theorem esc_75 : C.esc 75 = [] := by kernel_rfl
@[go_sem] theorem live_75_0 : C.live 75 0 = some [0] := by kernel_rfl
@[go_sem] theorem esc_79 : C.esc 79 = [] := by kernel_rfl
@[go_sem] theorem live_79_0 : C.live 79 0 = some [0] := by kernel_rfl
@[go_sem] theorem live_79_1 : C.live 79 1 = some [1] := by kernel_rfl
@[go_sem] theorem esc_80 : C.esc 80 = [] := by kernel_rfl
@[go_sem] theorem live_80_0 : C.live 80 0 = some [1, 2, 0] := by kernel_rfl
@[go_sem] theorem live_80_1 : C.live 80 1 = some [4, 2, 0] := by kernel_rfl
@[go_sem] theorem live_80_2 : C.live 80 2 = some [0] := by kernel_rfl
@[go_sem] theorem live_80_3 : C.live 80 3 = some [0, 2, 4] := by kernel_rfl
@[go_sem] theorem live_80_4 : C.live 80 4 = some [4, 0] := by kernel_rfl
@[go_sem] theorem live_80_5 : C.live 80 5 = some [0, 7, 4] := by kernel_rfl
@[go_sem] theorem live_80_7 : C.live 80 7 = some [0, 7, 4] := by kernel_rfl
@[go_sem] theorem live_80_6 : C.live 80 6 = some [7, 4, 0] := by kernel_rfl
@[go_sem] theorem live_80_8 : C.live 80 8 = some [0] := by kernel_rfl
@[go_sem] theorem esc_82 : C.esc 82 = [] := by kernel_rfl
@[go_sem] theorem live_82_0 : C.live 82 0 = some [0, 1] := by kernel_rfl
@[go_sem] theorem live_82_1 : C.live 82 1 = some [2, 3, 4] := by kernel_rfl
@[go_sem] theorem live_82_2 : C.live 82 2 = some [6, 2, 3, 4] := by kernel_rfl
@[go_sem] theorem live_82_3 : C.live 82 3 = some [6, 2, 3, 4] := by kernel_rfl
@[go_sem] theorem live_82_4 : C.live 82 4 = some [5, 6, 2, 3, 4] := by kernel_rfl
@[go_sem] theorem live_82_5 : C.live 82 5 = some [6, 2, 3, 4] := by kernel_rfl
@[go_sem] theorem live_82_6 : C.live 82 6 = some [2, 4] := by kernel_rfl
@[go_sem] theorem esc_83 : C.esc 83 = [] := by kernel_rfl
@[go_sem] theorem live_83_0 : C.live 83 0 = some [0] := by kernel_rfl
@[go_sem] theorem live_83_1 : C.live 83 1 = some [1, 2] := by kernel_rfl
@[go_sem] theorem live_83_2 : C.live 83 2 = some [1, 3, 2] := by kernel_rfl
@[go_sem] theorem live_83_3 : C.live 83 3 = some [1, 3, 2] := by kernel_rfl
@[go_sem] theorem live_83_4 : C.live 83 4 = some [1, 3, 2] := by kernel_rfl
@[go_sem] theorem live_83_5 : C.live 83 5 = some [1, 3, 2] := by kernel_rfl
@[go_sem] theorem live_83_6 : C.live 83 6 = some [13, 1, 3, 2] := by kernel_rfl
@[go_sem] theorem live_83_9 : C.live 83 9 = some [13, 1, 3, 2] := by kernel_rfl
@[go_sem] theorem live_83_11 : C.live 83 11 = some [1, 13, 3, 2] := by kernel_rfl
@[go_sem] theorem live_83_13 : C.live 83 13 = some [13, 3, 1, 2] := by kernel_rfl
@[go_sem] theorem live_83_15 : C.live 83 15 = some [13, 3, 1, 2] := by kernel_rfl
@[go_sem] theorem live_83_16 : C.live 83 16 = some [3, 1, 2] := by kernel_rfl
@[go_sem] theorem live_83_17 : C.live 83 17 = some [3, 1, 2] := by kernel_rfl
@[go_sem] theorem live_83_18 : C.live 83 18 = some [3, 1, 2] := by kernel_rfl
@[go_sem] theorem live_83_14 : C.live 83 14 = some [3, 1, 2] := by kernel_rfl
@[go_sem] theorem live_83_12 : C.live 83 12 = some [3, 2] := by kernel_rfl
@[go_sem] theorem live_83_10 : C.live 83 10 = some [3, 2] := by kernel_rfl
@[go_sem] theorem live_83_7 : C.live 83 7 = some [1, 3, 2] := by kernel_rfl
@[go_sem] theorem live_83_8 : C.live 83 8 = some [3, 2] := by kernel_rfl
@[go_sem] theorem live_83_19 : C.live 83 19 = some [3, 2] := by kernel_rfl
@[go_sem] theorem esc_84 : C.esc 84 = [] := by kernel_rfl
@[go_sem] theorem live_84_0 : C.live 84 0 = some [1, 0] := by kernel_rfl
@[go_sem] theorem live_84_1 : C.live 84 1 = some [3, 0] := by kernel_rfl
@[go_sem] theorem live_84_2 : C.live 84 2 = some [3, 0, 4] := by kernel_rfl
@[go_sem] theorem live_84_3 : C.live 84 3 = some [3, 0, 4] := by kernel_rfl
@[go_sem] theorem live_84_4 : C.live 84 4 = some [0, 4] := by kernel_rfl
@[go_sem] theorem live_84_5 : C.live 84 5 = some [4, 3, 0] := by kernel_rfl
@[go_sem] theorem live_84_6 : C.live 84 6 = some [4, 3, 0, 5] := by kernel_rfl
@[go_sem] theorem live_84_7 : C.live 84 7 = some [3, 0, 5] := by kernel_rfl
@[go_sem] theorem live_84_8 : C.live 84 8 = some [0, 5] := by kernel_rfl
@[go_sem] theorem esc_85 : C.esc 85 = [] := by kernel_rfl
@[go_sem] theorem live_85_0 : C.live 85 0 = some [1, 0] := by kernel_rfl
@[go_sem] theorem live_85_1 : C.live 85 1 = some [3, 0] := by kernel_rfl
@[go_sem] theorem live_85_2 : C.live 85 2 = some [3, 4, 0] := by kernel_rfl
@[go_sem] theorem live_85_3 : C.live 85 3 = some [3, 4, 0] := by kernel_rfl
@[go_sem] theorem live_85_4 : C.live 85 4 = some [3, 4, 0] := by kernel_rfl
@[go_sem] theorem live_85_5 : C.live 85 5 = some [3, 4, 0] := by kernel_rfl
@[go_sem] theorem live_85_6 : C.live 85 6 = some [3, 4, 0] := by kernel_rfl
@[go_sem] theorem live_85_7 : C.live 85 7 = some [3, 4, 5, 0] := by kernel_rfl
@[go_sem] theorem live_85_8 : C.live 85 8 = some [3, 4, 5, 0] := by kernel_rfl
@[go_sem] theorem live_85_9 : C.live 85 9 = some [3, 4, 5, 0] := by kernel_rfl
@[go_sem] theorem live_85_10 : C.live 85 10 = some [3, 4, 5, 0] := by kernel_rfl
@[go_sem] theorem live_85_11 : C.live 85 11 = some [3, 4, 5, 0, 6] := by kernel_rfl
@[go_sem] theorem live_85_12 : C.live 85 12 = some [3, 4, 5, 0, 6] := by kernel_rfl
@[go_sem] theorem live_85_13 : C.live 85 13 = some [4, 5, 0, 6] := by kernel_rfl
@[go_sem] theorem live_85_14 : C.live 85 14 = some [4, 5, 0, 6] := by kernel_rfl
@[go_sem] theorem live_85_15 : C.live 85 15 = some [4, 5, 0, 6] := by kernel_rfl
@[go_sem] theorem live_85_16 : C.live 85 16 = some [4, 5, 0, 6] := by kernel_rfl
@[go_sem] theorem live_85_17 : C.live 85 17 = some [5, 0, 6] := by kernel_rfl
@[go_sem] theorem live_85_18 : C.live 85 18 = some [0, 6] := by kernel_rfl
@[go_sem] theorem live_90_0 : C.live 90 0 = some [0] := by kernel_rfl
@[go_sem] theorem live_90_1 : C.live 90 1 = some [0] := by kernel_rfl
@[go_sem] theorem live_90_2 : C.live 90 2 = some [8] := by kernel_rfl
@[go_sem] theorem live_90_3 : C.live 90 3 = some [8] := by kernel_rfl
@[go_sem] theorem live_90_5 : C.live 90 5 = some [8] := by kernel_rfl
@[go_sem] theorem live_90_7 : C.live 90 7 = some [8] := by kernel_rfl
@[go_sem] theorem live_90_8 : C.live 90 8 = some [8] := by kernel_rfl
@[go_sem] theorem live_90_10 : C.live 90 10 = some [8] := by kernel_rfl
@[go_sem] theorem live_90_12 : C.live 90 12 = some [8] := by kernel_rfl
@[go_sem] theorem live_90_13 : C.live 90 13 = some [] := by kernel_rfl
@[go_sem] theorem live_90_11 : C.live 90 11 = some [] := by kernel_rfl
@[go_sem] theorem live_90_9 : C.live 90 9 = some [] := by kernel_rfl
@[go_sem] theorem live_90_6 : C.live 90 6 = some [] := by kernel_rfl
@[go_sem] theorem live_90_4 : C.live 90 4 = some [] := by kernel_rfl
@[go_sem] theorem live_90_14 : C.live 90 14 = some [] := by kernel_rfl
@[go_sem] theorem live_91_0 : C.live 91 0 = some [0] := by kernel_rfl
@[go_sem] theorem live_91_1 : C.live 91 1 = some [0] := by kernel_rfl
@[go_sem] theorem live_92_0 : C.live 92 0 = some [1, 0] := by kernel_rfl
@[go_sem] theorem live_92_1 : C.live 92 1 = some [1, 0] := by kernel_rfl
@[go_sem] theorem live_92_2 : C.live 92 2 = some [0, 1, 5] := by kernel_rfl
@[go_sem] theorem live_92_4 : C.live 92 4 = some [0, 1, 5] := by kernel_rfl
@[go_sem] theorem live_92_5 : C.live 92 5 = some [] := by kernel_rfl
@[go_sem] theorem live_92_3 : C.live 92 3 = some [5, 1, 0] := by kernel_rfl
@[go_sem] theorem live_92_6 : C.live 92 6 = some [] := by kernel_rfl
@[go_sem] theorem live_93_0 : C.live 93 0 = some [] := by kernel_rfl
@[go_sem] theorem live_93_1 : C.live 93 1 = some [] := by kernel_rfl
@[go_sem] theorem esc_94 : C.esc 94 = [] := by kernel_rfl
@[go_sem] theorem live_94_0 : C.live 94 0 = some [0, 1] := by kernel_rfl
@[go_sem] theorem live_94_1 : C.live 94 1 = some [2, 1] := by kernel_rfl
@[go_sem] theorem live_94_2 : C.live 94 2 = some [2, 1, 5] := by kernel_rfl
@[go_sem] theorem live_94_3 : C.live 94 3 = some [5] := by kernel_rfl
@[go_sem] theorem live_94_4 : C.live 94 4 = some [1, 2] := by kernel_rfl
@[go_sem] theorem live_94_5 : C.live 94 5 = some [2, 1, 6] := by kernel_rfl
@[go_sem] theorem live_94_7 : C.live 94 7 = some [2, 1, 6] := by kernel_rfl
@[go_sem] theorem live_94_8 : C.live 94 8 = some [2, 1, 6, 7] := by kernel_rfl
@[go_sem] theorem live_94_9 : C.live 94 9 = some [7] := by kernel_rfl
@[go_sem] theorem live_94_6 : C.live 94 6 = some [6, 1, 2] := by kernel_rfl
@[go_sem] theorem live_94_10 : C.live 94 10 = some [] := by kernel_rfl
@[go_sem] theorem live_95_0 : C.live 95 0 = some [0] := by kernel_rfl
@[go_sem] theorem live_95_1 : C.live 95 1 = some [0] := by kernel_rfl
@[go_sem] theorem live_95_2 : C.live 95 2 = some [0, 3] := by kernel_rfl
@[go_sem] theorem live_95_3 : C.live 95 3 = some [0, 3] := by kernel_rfl
@[go_sem] theorem live_95_4 : C.live 95 4 = some [0, 3] := by kernel_rfl
@[go_sem] theorem live_95_5 : C.live 95 5 = some [0, 3] := by kernel_rfl
@[go_sem] theorem live_95_6 : C.live 95 6 = some [0, 3] := by kernel_rfl
@[go_sem] theorem live_95_7 : C.live 95 7 = some [0, 3] := by kernel_rfl
@[go_sem] theorem live_95_9 : C.live 95 9 = some [3, 0] := by kernel_rfl
@[go_sem] theorem live_95_10 : C.live 95 10 = some [3, 0] := by kernel_rfl
@[go_sem] theorem live_95_11 : C.live 95 11 = some [3, 0] := by kernel_rfl
@[go_sem] theorem live_95_12 : C.live 95 12 = some [3, 0] := by kernel_rfl
@[go_sem] theorem live_95_13 : C.live 95 13 = some [3, 0] := by kernel_rfl
@[go_sem] theorem live_95_14 : C.live 95 14 = some [3, 0] := by kernel_rfl
@[go_sem] theorem live_95_15 : C.live 95 15 = some [3, 0] := by kernel_rfl
@[go_sem] theorem live_95_16 : C.live 95 16 = some [] := by kernel_rfl
@[go_sem] theorem live_95_8 : C.live 95 8 = some [] := by kernel_rfl
@[go_sem] theorem live_95_17 : C.live 95 17 = some [0] := by kernel_rfl
@[go_sem] theorem live_95_18 : C.live 95 18 = some [] := by kernel_rfl
@[go_sem] theorem live_95_19 : C.live 95 19 = some [] := by kernel_rfl
@[go_sem] theorem esc_99 : C.esc 99 = [] := by kernel_rfl
@[go_sem] theorem live_99_0 : C.live 99 0 = some [0, 1] := by kernel_rfl
@[go_sem] theorem live_99_1 : C.live 99 1 = some [2, 1] := by kernel_rfl
@[go_sem] theorem live_99_2 : C.live 99 2 = some [2, 5, 1] := by kernel_rfl
@[go_sem] theorem live_99_4 : C.live 99 4 = some [1, 5, 2] := by kernel_rfl
@[go_sem] theorem live_99_6 : C.live 99 6 = some [2, 5, 1] := by kernel_rfl
@[go_sem] theorem live_99_8 : C.live 99 8 = some [1] := by kernel_rfl
@[go_sem] theorem live_99_9 : C.live 99 9 = some [] := by kernel_rfl
@[go_sem] theorem live_99_7 : C.live 99 7 = some [] := by kernel_rfl
@[go_sem] theorem live_99_5 : C.live 99 5 = some [] := by kernel_rfl
@[go_sem] theorem live_99_3 : C.live 99 3 = some [] := by kernel_rfl
@[go_sem] theorem live_99_10 : C.live 99 10 = some [] := by kernel_rfl
@[go_sem] theorem live_100_0 : C.live 100 0 = some [0] := by kernel_rfl
@[go_sem] theorem live_100_1 : C.live 100 1 = some [0] := by kernel_rfl
@[go_sem] theorem esc_101 : C.esc 101 = [4] := by kernel_rfl
@[go_sem] theorem live_101_0 : C.live 101 0 = some [0] := by kernel_rfl
@[go_sem] theorem live_101_1 : C.live 101 1 = some [0] := by kernel_rfl
@[go_sem] theorem live_101_2 : C.live 101 2 = some [] := by kernel_rfl
@[go_sem] theorem live_101_3 : C.live 101 3 = some [0] := by kernel_rfl
@[go_sem] theorem live_101_4 : C.live 101 4 = some [9, 8, 0, 10] := by kernel_rfl
@[go_sem] theorem live_101_5 : C.live 101 5 = some [9, 8, 0, 10] := by kernel_rfl
@[go_sem] theorem live_101_6 : C.live 101 6 = some [3, 4, 9, 8, 0, 10] := by kernel_rfl
@[go_sem] theorem live_101_8 : C.live 101 8 = some [10, 0, 8, 9, 4, 3] := by kernel_rfl
@[go_sem] theorem live_101_10 : C.live 101 10 = some [3, 4, 9, 8, 0, 10] := by kernel_rfl
@[go_sem] theorem live_101_11 : C.live 101 11 = some [] := by kernel_rfl
@[go_sem] theorem live_101_9 : C.live 101 9 = some [] := by kernel_rfl
@[go_sem] theorem live_101_7 : C.live 101 7 = some [] := by kernel_rfl
@[go_sem] theorem live_101_12 : C.live 101 12 = some [10, 0, 8, 9] := by kernel_rfl
@[go_sem] theorem live_101_13 : C.live 101 13 = some [] := by kernel_rfl
@[go_sem] theorem esc_102 : C.esc 102 = [] := by kernel_rfl
@[go_sem] theorem live_102_0 : C.live 102 0 = some [0, 1, 2] := by kernel_rfl
@[go_sem] theorem live_102_1 : C.live 102 1 = some [3, 1, 2] := by kernel_rfl
@[go_sem] theorem live_102_2 : C.live 102 2 = some [3, 1, 2] := by kernel_rfl
@[go_sem] theorem esc_103 : C.esc 103 = [] := by kernel_rfl
@[go_sem] theorem live_103_0 : C.live 103 0 = some [0, 1] := by kernel_rfl
@[go_sem] theorem live_103_1 : C.live 103 1 = some [1, 2] := by kernel_rfl
@[go_sem] theorem live_103_2 : C.live 103 2 = some [6, 1, 2, 5] := by kernel_rfl
@[go_sem] theorem live_103_3 : C.live 103 3 = some [] := by kernel_rfl
@[go_sem] theorem live_103_4 : C.live 103 4 = some [5, 2, 1] := by kernel_rfl
@[go_sem] theorem live_103_5 : C.live 103 5 = some [] := by kernel_rfl
@[go_sem] theorem live_103_6 : C.live 103 6 = some [1, 2, 5] := by kernel_rfl
@[go_sem] theorem live_103_7 : C.live 103 7 = some [1, 2, 5] := by kernel_rfl
@[go_sem] theorem live_103_8 : C.live 103 8 = some [1, 2, 5, 7] := by kernel_rfl
@[go_sem] theorem live_103_9 : C.live 103 9 = some [7] := by kernel_rfl
@[go_sem] theorem live_103_10 : C.live 103 10 = some [5, 2, 1] := by kernel_rfl
@[go_sem] theorem live_103_11 : C.live 103 11 = some [2, 1] := by kernel_rfl
@[go_sem] theorem live_103_12 : C.live 103 12 = some [1, 8] := by kernel_rfl
@[go_sem] theorem live_103_13 : C.live 103 13 = some [8] := by kernel_rfl
@[go_sem] theorem live_103_14 : C.live 103 14 = some [1] := by kernel_rfl
@[go_sem] theorem live_103_15 : C.live 103 15 = some [] := by kernel_rfl
@[go_sem] theorem live_103_16 : C.live 103 16 = some [] := by kernel_rfl
@[go_sem] theorem esc_104 : C.esc 104 = [] := by kernel_rfl
@[go_sem] theorem live_104_0 : C.live 104 0 = some [1, 0] := by kernel_rfl
@[go_sem] theorem live_104_1 : C.live 104 1 = some [3, 0] := by kernel_rfl
@[go_sem] theorem live_104_2 : C.live 104 2 = some [5, 3, 0, 6, 7] := by kernel_rfl
@[go_sem] theorem live_104_3 : C.live 104 3 = some [7] := by kernel_rfl
@[go_sem] theorem live_104_4 : C.live 104 4 = some [6, 0, 3, 5] := by kernel_rfl
@[go_sem] theorem live_104_5 : C.live 104 5 = some [23, 6, 0, 3, 5] := by kernel_rfl
@[go_sem] theorem live_104_7 : C.live 104 7 = some [6, 23, 5, 3, 0] := by kernel_rfl
@[go_sem] theorem live_104_15 : C.live 104 15 = some [3, 0, 23, 5, 6] := by kernel_rfl
@[go_sem] theorem live_104_18 : C.live 104 18 = some [6, 23, 0, 3, 5] := by kernel_rfl
@[go_sem] theorem live_104_21 : C.live 104 21 = some [3, 0, 23, 6, 5] := by kernel_rfl
@[go_sem] theorem live_104_24 : C.live 104 24 = some [6, 23, 5, 0, 3] := by kernel_rfl
@[go_sem] theorem live_104_31 : C.live 104 31 = some [23, 5, 6, 3, 0] := by kernel_rfl
@[go_sem] theorem live_104_32 : C.live 104 32 = some [5, 6, 3, 0] := by kernel_rfl
@[go_sem] theorem live_104_33 : C.live 104 33 = some [] := by kernel_rfl
@[go_sem] theorem live_104_34 : C.live 104 34 = some [0, 3] := by kernel_rfl
@[go_sem] theorem live_104_35 : C.live 104 35 = some [0, 3] := by kernel_rfl
@[go_sem] theorem live_104_36 : C.live 104 36 = some [0, 3] := by kernel_rfl
@[go_sem] theorem live_104_37 : C.live 104 37 = some [0, 3, 11] := by kernel_rfl
@[go_sem] theorem live_104_38 : C.live 104 38 = some [11] := by kernel_rfl
@[go_sem] theorem live_104_25 : C.live 104 25 = some [5, 0, 3] := by kernel_rfl
@[go_sem] theorem live_104_26 : C.live 104 26 = some [] := by kernel_rfl
@[go_sem] theorem live_104_27 : C.live 104 27 = some [3, 0] := by kernel_rfl
@[go_sem] theorem live_104_28 : C.live 104 28 = some [3, 0, 10] := by kernel_rfl
@[go_sem] theorem live_104_29 : C.live 104 29 = some [10] := by kernel_rfl
@[go_sem] theorem live_104_30 : C.live 104 30 = some [0, 3] := by kernel_rfl
@[go_sem] theorem live_104_22 : C.live 104 22 = some [5] := by kernel_rfl
@[go_sem] theorem live_104_23 : C.live 104 23 = some [] := by kernel_rfl
@[go_sem] theorem live_104_19 : C.live 104 19 = some [5] := by kernel_rfl
@[go_sem] theorem live_104_20 : C.live 104 20 = some [] := by kernel_rfl
@[go_sem] theorem live_104_16 : C.live 104 16 = some [5, 6] := by kernel_rfl
@[go_sem] theorem live_104_17 : C.live 104 17 = some [] := by kernel_rfl
@[go_sem] theorem live_104_8 : C.live 104 8 = some [5, 3, 0] := by kernel_rfl
@[go_sem] theorem live_104_9 : C.live 104 9 = some [9, 8, 5, 3, 0] := by kernel_rfl
@[go_sem] theorem live_104_11 : C.live 104 11 = some [0, 3, 5, 8] := by kernel_rfl
@[go_sem] theorem live_104_13 : C.live 104 13 = some [8, 5] := by kernel_rfl
@[go_sem] theorem live_104_14 : C.live 104 14 = some [] := by kernel_rfl
@[go_sem] theorem live_104_12 : C.live 104 12 = some [] := by kernel_rfl
@[go_sem] theorem live_104_10 : C.live 104 10 = some [] := by kernel_rfl
@[go_sem] theorem live_104_6 : C.live 104 6 = some [0, 3, 5] := by kernel_rfl
@[go_sem] theorem live_104_39 : C.live 104 39 = some [] := by kernel_rfl
@[go_sem] theorem esc_105 : C.esc 105 = [] := by kernel_rfl
@[go_sem] theorem live_105_0 : C.live 105 0 = some [1, 0, 2] := by kernel_rfl
@[go_sem] theorem live_105_1 : C.live 105 1 = some [9, 8, 2, 0, 10] := by kernel_rfl
@[go_sem] theorem live_105_2 : C.live 105 2 = some [9, 8, 2, 0, 10] := by kernel_rfl
@[go_sem] theorem live_105_3 : C.live 105 3 = some [9, 8, 2, 0, 10, 7] := by kernel_rfl
@[go_sem] theorem live_105_4 : C.live 105 4 = some [7, 10, 0, 2, 8, 9] := by kernel_rfl
@[go_sem] theorem live_105_5 : C.live 105 5 = some [7, 10, 0, 2, 8, 9] := by kernel_rfl
@[go_sem] theorem live_105_6 : C.live 105 6 = some [7, 10, 0, 2, 8, 9] := by kernel_rfl
@[go_sem] theorem live_105_7 : C.live 105 7 = some [7, 10, 0, 2, 8, 9] := by kernel_rfl
@[go_sem] theorem live_105_8 : C.live 105 8 = some [7, 10, 0, 2, 8, 9] := by kernel_rfl
@[go_sem] theorem live_105_9 : C.live 105 9 = some [7, 10, 0, 2, 8, 9] := by kernel_rfl
@[go_sem] theorem live_105_10 : C.live 105 10 = some [10, 0, 2, 8, 9] := by kernel_rfl
@[go_sem] theorem esc_107 : C.esc 107 = [3] := by kernel_rfl
@[go_sem] theorem live_107_0 : C.live 107 0 = some [0] := by kernel_rfl
@[go_sem] theorem live_107_1 : C.live 107 1 = some [1] := by kernel_rfl
@[go_sem] theorem live_107_2 : C.live 107 2 = some [1, 3] := by kernel_rfl
@[go_sem] theorem live_107_3 : C.live 107 3 = some [3] := by kernel_rfl
@[go_sem] theorem esc_110 : C.esc 110 = [] := by kernel_rfl
@[go_sem] theorem live_110_0 : C.live 110 0 = some [0] := by kernel_rfl
@[go_sem] theorem live_110_1 : C.live 110 1 = some [1] := by kernel_rfl
@[go_sem] theorem live_110_2 : C.live 110 2 = some [3, 1] := by kernel_rfl
@[go_sem] theorem live_110_3 : C.live 110 3 = some [7, 3, 1] := by kernel_rfl
@[go_sem] theorem live_110_4 : C.live 110 4 = some [7, 3, 1] := by kernel_rfl
@[go_sem] theorem live_110_5 : C.live 110 5 = some [7, 3, 1] := by kernel_rfl
@[go_sem] theorem live_110_6 : C.live 110 6 = some [1] := by kernel_rfl
@[go_sem] theorem live_110_7 : C.live 110 7 = some [1, 3] := by kernel_rfl
@[go_sem] theorem live_110_8 : C.live 110 8 = some [3, 15, 13, 14] := by kernel_rfl
@[go_sem] theorem live_110_9 : C.live 110 9 = some [3, 15, 13, 14] := by kernel_rfl
@[go_sem] theorem live_110_10 : C.live 110 10 = some [3, 5, 15, 13, 14] := by kernel_rfl
@[go_sem] theorem live_110_11 : C.live 110 11 = some [15, 3, 13, 14] := by kernel_rfl
@[go_sem] theorem live_110_12 : C.live 110 12 = some [3] := by kernel_rfl
@[go_sem] theorem esc_111 : C.esc 111 = [] := by kernel_rfl
@[go_sem] theorem live_111_0 : C.live 111 0 = some [0, 1] := by kernel_rfl
@[go_sem] theorem live_111_1 : C.live 111 1 = some [2, 3, 4] := by kernel_rfl
@[go_sem] theorem live_111_2 : C.live 111 2 = some [6, 2, 3, 4] := by kernel_rfl
@[go_sem] theorem live_111_3 : C.live 111 3 = some [6, 2, 3, 4] := by kernel_rfl
@[go_sem] theorem live_111_4 : C.live 111 4 = some [5, 6, 2, 3, 4] := by kernel_rfl
@[go_sem] theorem live_111_5 : C.live 111 5 = some [6, 2, 3, 4] := by kernel_rfl
@[go_sem] theorem live_111_6 : C.live 111 6 = some [2, 4] := by kernel_rfl
@[go_sem] theorem esc_112 : C.esc 112 = [] := by kernel_rfl
@[go_sem] theorem live_112_0 : C.live 112 0 = some [0, 1] := by kernel_rfl
@[go_sem] theorem live_112_1 : C.live 112 1 = some [2, 1, 4] := by kernel_rfl
@[go_sem] theorem live_112_2 : C.live 112 2 = some [6, 2, 1, 4] := by kernel_rfl
@[go_sem] theorem live_112_3 : C.live 112 3 = some [6, 2, 1, 4] := by kernel_rfl
@[go_sem] theorem live_112_4 : C.live 112 4 = some [5, 6, 2, 1, 4] := by kernel_rfl
@[go_sem] theorem live_112_5 : C.live 112 5 = some [6, 2, 1, 4] := by kernel_rfl
@[go_sem] theorem live_112_6 : C.live 112 6 = some [2, 4] := by kernel_rfl
@[go_sem] theorem esc_113 : C.esc 113 = [] := by kernel_rfl
@[go_sem] theorem live_113_0 : C.live 113 0 = some [1, 0] := by kernel_rfl
@[go_sem] theorem live_114_0 : C.live 114 0 = some [0] := by kernel_rfl
@[go_sem] theorem live_114_1 : C.live 114 1 = some [0] := by kernel_rfl
@[go_sem] theorem live_122_0 : C.live 122 0 = some [0] := by kernel_rfl
@[go_sem] theorem live_122_1 : C.live 122 1 = some [0] := by kernel_rfl
@[go_sem] theorem esc_123 : C.esc 123 = [] := by kernel_rfl
@[go_sem] theorem live_123_0 : C.live 123 0 = some [0, 1] := by kernel_rfl
@[go_sem] theorem live_123_1 : C.live 123 1 = some [2, 1] := by kernel_rfl
@[go_sem] theorem live_123_2 : C.live 123 2 = some [] := by kernel_rfl
@[go_sem] theorem live_123_3 : C.live 123 3 = some [1, 2] := by kernel_rfl
@[go_sem] theorem live_123_4 : C.live 123 4 = some [] := by kernel_rfl
@[go_sem] theorem live_123_5 : C.live 123 5 = some [2, 1] := by kernel_rfl
@[go_sem] theorem live_123_6 : C.live 123 6 = some [] := by kernel_rfl
@[go_sem] theorem live_123_7 : C.live 123 7 = some [1] := by kernel_rfl
@[go_sem] theorem live_123_8 : C.live 123 8 = some [] := by kernel_rfl
@[go_sem] theorem live_123_9 : C.live 123 9 = some [] := by kernel_rfl
@[go_sem] theorem live_124_0 : C.live 124 0 = some [0] := by kernel_rfl
@[go_sem] theorem live_124_1 : C.live 124 1 = some [0] := by kernel_rfl
@[go_sem] theorem live_124_3 : C.live 124 3 = some [0] := by kernel_rfl
@[go_sem] theorem live_124_5 : C.live 124 5 = some [0] := by kernel_rfl
@[go_sem] theorem live_124_6 : C.live 124 6 = some [] := by kernel_rfl
@[go_sem] theorem live_124_4 : C.live 124 4 = some [] := by kernel_rfl
@[go_sem] theorem live_124_2 : C.live 124 2 = some [] := by kernel_rfl
@[go_sem] theorem live_124_7 : C.live 124 7 = some [] := by kernel_rfl
@[go_sem] theorem live_125_0 : C.live 125 0 = some [0] := by kernel_rfl
@[go_sem] theorem live_125_1 : C.live 125 1 = some [0] := by kernel_rfl
@[go_sem] theorem live_125_2 : C.live 125 2 = some [0, 3] := by kernel_rfl
@[go_sem] theorem live_125_4 : C.live 125 4 = some [0, 3] := by kernel_rfl
@[go_sem] theorem live_125_5 : C.live 125 5 = some [] := by kernel_rfl
@[go_sem] theorem live_125_3 : C.live 125 3 = some [3, 0] := by kernel_rfl
@[go_sem] theorem live_125_6 : C.live 125 6 = some [0] := by kernel_rfl
@[go_sem] theorem live_126_0 : C.live 126 0 = some [0] := by kernel_rfl
@[go_sem] theorem live_126_1 : C.live 126 1 = some [0] := by kernel_rfl
@[go_sem] theorem live_127_0 : C.live 127 0 = some [0] := by kernel_rfl
@[go_sem] theorem live_127_1 : C.live 127 1 = some [0] := by kernel_rfl
@[go_sem] theorem live_127_2 : C.live 127 2 = some [6, 0] := by kernel_rfl
@[go_sem] theorem live_127_3 : C.live 127 3 = some [7, 6, 0] := by kernel_rfl
@[go_sem] theorem live_127_4 : C.live 127 4 = some [4, 6, 0, 3] := by kernel_rfl
@[go_sem] theorem live_127_5 : C.live 127 5 = some [3] := by kernel_rfl
@[go_sem] theorem live_127_6 : C.live 127 6 = some [0] := by kernel_rfl
@[go_sem] theorem live_128_0 : C.live 128 0 = some [0] := by kernel_rfl
@[go_sem] theorem live_128_1 : C.live 128 1 = some [0] := by kernel_rfl
@[go_sem] theorem live_128_2 : C.live 128 2 = some [3] := by kernel_rfl
@[go_sem] theorem live_128_3 : C.live 128 3 = some [3] := by kernel_rfl
@[go_sem] theorem live_128_4 : C.live 128 4 = some [3] := by kernel_rfl
@[go_sem] theorem live_128_5 : C.live 128 5 = some [3] := by kernel_rfl
@[go_sem] theorem live_128_6 : C.live 128 6 = some [3] := by kernel_rfl
@[go_sem] theorem live_128_7 : C.live 128 7 = some [3] := by kernel_rfl
@[go_sem] theorem live_128_8 : C.live 128 8 = some [3] := by kernel_rfl
@[go_sem] theorem live_128_9 : C.live 128 9 = some [3] := by kernel_rfl
@[go_sem] theorem live_128_10 : C.live 128 10 = some [3] := by kernel_rfl
@[go_sem] theorem live_128_11 : C.live 128 11 = some [3] := by kernel_rfl
@[go_sem] theorem live_128_12 : C.live 128 12 = some [3] := by kernel_rfl
@[go_sem] theorem live_128_13 : C.live 128 13 = some [3] := by kernel_rfl
@[go_sem] theorem live_128_14 : C.live 128 14 = some [3] := by kernel_rfl
@[go_sem] theorem live_128_15 : C.live 128 15 = some [3] := by kernel_rfl
@[go_sem] theorem live_128_16 : C.live 128 16 = some [3] := by kernel_rfl
@[go_sem] theorem live_128_17 : C.live 128 17 = some [3] := by kernel_rfl
@[go_sem] theorem live_128_18 : C.live 128 18 = some [3] := by kernel_rfl
@[go_sem] theorem live_128_19 : C.live 128 19 = some [3] := by kernel_rfl
@[go_sem] theorem live_128_20 : C.live 128 20 = some [3] := by kernel_rfl
@[go_sem] theorem live_128_21 : C.live 128 21 = some [3] := by kernel_rfl
@[go_sem] theorem live_128_22 : C.live 128 22 = some [3] := by kernel_rfl
@[go_sem] theorem live_128_23 : C.live 128 23 = some [3] := by kernel_rfl
@[go_sem] theorem live_128_24 : C.live 128 24 = some [3] := by kernel_rfl
@[go_sem] theorem live_128_25 : C.live 128 25 = some [3] := by kernel_rfl
@[go_sem] theorem live_128_26 : C.live 128 26 = some [3] := by kernel_rfl
@[go_sem] theorem live_128_27 : C.live 128 27 = some [] := by kernel_rfl
@[go_sem] theorem live_128_28 : C.live 128 28 = some [] := by kernel_rfl
@[go_sem] theorem live_129_0 : C.live 129 0 = some [0, 1] := by kernel_rfl
@[go_sem] theorem live_129_1 : C.live 129 1 = some [0, 1] := by kernel_rfl
@[go_sem] theorem esc_130 : C.esc 130 = [] := by kernel_rfl
@[go_sem] theorem live_130_0 : C.live 130 0 = some [0, 1] := by kernel_rfl
@[go_sem] theorem live_130_1 : C.live 130 1 = some [2, 1] := by kernel_rfl
@[go_sem] theorem esc_131 : C.esc 131 = [] := by kernel_rfl
@[go_sem] theorem live_131_0 : C.live 131 0 = some [0] := by kernel_rfl
@[go_sem] theorem live_131_1 : C.live 131 1 = some [0, 2] := by kernel_rfl
@[go_sem] theorem live_131_2 : C.live 131 2 = some [4, 2] := by kernel_rfl
@[go_sem] theorem live_131_3 : C.live 131 3 = some [4, 2] := by kernel_rfl
@[go_sem] theorem live_131_5 : C.live 131 5 = some [4, 2] := by kernel_rfl
@[go_sem] theorem live_131_7 : C.live 131 7 = some [4, 2] := by kernel_rfl
@[go_sem] theorem live_131_8 : C.live 131 8 = some [4, 2] := by kernel_rfl
@[go_sem] theorem live_131_10 : C.live 131 10 = some [4, 2] := by kernel_rfl
@[go_sem] theorem live_131_12 : C.live 131 12 = some [4, 2] := by kernel_rfl
@[go_sem] theorem live_131_14 : C.live 131 14 = some [4, 2] := by kernel_rfl
@[go_sem] theorem live_131_15 : C.live 131 15 = some [2] := by kernel_rfl
@[go_sem] theorem live_131_13 : C.live 131 13 = some [2] := by kernel_rfl
@[go_sem] theorem live_131_11 : C.live 131 11 = some [2] := by kernel_rfl
@[go_sem] theorem live_131_9 : C.live 131 9 = some [2] := by kernel_rfl
@[go_sem] theorem live_131_6 : C.live 131 6 = some [2] := by kernel_rfl
@[go_sem] theorem live_131_4 : C.live 131 4 = some [2] := by kernel_rfl
@[go_sem] theorem live_131_16 : C.live 131 16 = some [2] := by kernel_rfl
@[go_sem] theorem esc_132 : C.esc 132 = [] := by kernel_rfl
@[go_sem] theorem live_132_0 : C.live 132 0 = some [0, 1] := by kernel_rfl
@[go_sem] theorem live_132_1 : C.live 132 1 = some [3, 2] := by kernel_rfl
@[go_sem] theorem live_132_2 : C.live 132 2 = some [] := by kernel_rfl
@[go_sem] theorem live_132_3 : C.live 132 3 = some [2] := by kernel_rfl
@[go_sem] theorem live_132_4 : C.live 132 4 = some [68, 2] := by kernel_rfl
@[go_sem] theorem live_132_6 : C.live 132 6 = some [68, 2] := by kernel_rfl
@[go_sem] theorem live_132_7 : C.live 132 7 = some [2] := by kernel_rfl
@[go_sem] theorem live_132_5 : C.live 132 5 = some [2] := by kernel_rfl
@[go_sem] theorem live_132_8 : C.live 132 8 = some [] := by kernel_rfl
@[go_sem] theorem esc_133 : C.esc 133 = [] := by kernel_rfl
@[go_sem] theorem live_133_0 : C.live 133 0 = some [1, 0] := by kernel_rfl
@[go_sem] theorem live_133_1 : C.live 133 1 = some [0, 3, 5] := by kernel_rfl
@[go_sem] theorem live_133_2 : C.live 133 2 = some [] := by kernel_rfl
@[go_sem] theorem live_133_3 : C.live 133 3 = some [5, 3, 0] := by kernel_rfl
@[go_sem] theorem live_133_4 : C.live 133 4 = some [6, 5, 3, 0, 4] := by kernel_rfl
@[go_sem] theorem live_133_5 : C.live 133 5 = some [3, 0, 4] := by kernel_rfl
@[go_sem] theorem live_133_6 : C.live 133 6 = some [4, 5, 6] := by kernel_rfl
@[go_sem] theorem esc_134 : C.esc 134 = [] := by kernel_rfl
@[go_sem] theorem live_134_0 : C.live 134 0 = some [1, 0] := by kernel_rfl
@[go_sem] theorem live_134_1 : C.live 134 1 = some [3, 0] := by kernel_rfl
@[go_sem] theorem live_134_2 : C.live 134 2 = some [0, 3] := by kernel_rfl
@[go_sem] theorem live_134_3 : C.live 134 3 = some [0, 3] := by kernel_rfl
@[go_sem] theorem esc_135 : C.esc 135 = [] := by kernel_rfl
@[go_sem] theorem live_135_0 : C.live 135 0 = some [0] := by kernel_rfl
@[go_sem] theorem esc_136 : C.esc 136 = [] := by kernel_rfl
@[go_sem] theorem live_136_0 : C.live 136 0 = some [0, 1] := by kernel_rfl
@[go_sem] theorem live_136_1 : C.live 136 1 = some [2, 1] := by kernel_rfl
@[go_sem] theorem esc_137 : C.esc 137 = [] := by kernel_rfl
@[go_sem] theorem live_137_0 : C.live 137 0 = some [0] := by kernel_rfl
@[go_sem] theorem live_137_1 : C.live 137 1 = some [1, 2] := by kernel_rfl
@[go_sem] theorem live_137_2 : C.live 137 2 = some [3, 1, 2] := by kernel_rfl
@[go_sem] theorem live_137_3 : C.live 137 3 = some [3, 1, 2] := by kernel_rfl
@[go_sem] theorem live_137_4 : C.live 137 4 = some [11, 1, 9, 2, 10] := by kernel_rfl
@[go_sem] theorem live_137_5 : C.live 137 5 = some [11, 1, 9, 2, 10] := by kernel_rfl
@[go_sem] theorem live_137_6 : C.live 137 6 = some [5, 11, 1, 9, 2, 10] := by kernel_rfl
@[go_sem] theorem live_137_7 : C.live 137 7 = some [11, 1, 9, 2, 10] := by kernel_rfl
@[go_sem] theorem live_137_8 : C.live 137 8 = some [1, 2] := by kernel_rfl
@[go_sem] theorem live_142_0 : C.live 142 0 = some [0] := by kernel_rfl
@[go_sem] theorem live_142_1 : C.live 142 1 = some [0] := by kernel_rfl
@[go_sem] theorem live_142_2 : C.live 142 2 = some [] := by kernel_rfl
@[go_sem] theorem live_142_3 : C.live 142 3 = some [0] := by kernel_rfl
@[go_sem] theorem live_142_4 : C.live 142 4 = some [0, 3] := by kernel_rfl
@[go_sem] theorem live_142_6 : C.live 142 6 = some [0, 3] := by kernel_rfl
@[go_sem] theorem live_142_7 : C.live 142 7 = some [] := by kernel_rfl
@[go_sem] theorem live_142_5 : C.live 142 5 = some [3, 0] := by kernel_rfl
@[go_sem] theorem live_142_8 : C.live 142 8 = some [] := by kernel_rfl
@[go_sem] theorem live_143_0 : C.live 143 0 = some [0, 1] := by kernel_rfl
@[go_sem] theorem live_143_1 : C.live 143 1 = some [0, 1] := by kernel_rfl
@[go_sem] theorem live_143_2 : C.live 143 2 = some [7, 1, 0, 8] := by kernel_rfl
@[go_sem] theorem live_143_3 : C.live 143 3 = some [7, 1, 0, 8] := by kernel_rfl
@[go_sem] theorem live_143_4 : C.live 143 4 = some [7, 1, 0, 8, 5] := by kernel_rfl
@[go_sem] theorem live_143_5 : C.live 143 5 = some [5] := by kernel_rfl
@[go_sem] theorem live_143_6 : C.live 143 6 = some [8, 0, 1, 7] := by kernel_rfl
@[go_sem] theorem live_143_7 : C.live 143 7 = some [] := by kernel_rfl
@[go_sem] theorem esc_144 : C.esc 144 = [] := by kernel_rfl
@[go_sem] theorem live_144_0 : C.live 144 0 = some [0] := by kernel_rfl
@[go_sem] theorem live_144_1 : C.live 144 1 = some [1] := by kernel_rfl
@[go_sem] theorem esc_145 : C.esc 145 = [] := by kernel_rfl
@[go_sem] theorem live_145_0 : C.live 145 0 = some [0, 1] := by kernel_rfl
@[go_sem] theorem live_145_1 : C.live 145 1 = some [1, 2] := by kernel_rfl
@[go_sem] theorem live_145_2 : C.live 145 2 = some [1, 2] := by kernel_rfl
@[go_sem] theorem live_145_3 : C.live 145 3 = some [7, 6] := by kernel_rfl
@[go_sem] theorem live_145_5 : C.live 145 5 = some [6] := by kernel_rfl
@[go_sem] theorem live_145_6 : C.live 145 6 = some [] := by kernel_rfl
@[go_sem] theorem live_145_4 : C.live 145 4 = some [] := by kernel_rfl
@[go_sem] theorem live_145_7 : C.live 145 7 = some [6] := by kernel_rfl
@[go_sem] theorem live_145_8 : C.live 145 8 = some [1, 2] := by kernel_rfl
@[go_sem] theorem live_145_9 : C.live 145 9 = some [8, 1, 2] := by kernel_rfl
@[go_sem] theorem live_145_10 : C.live 145 10 = some [40, 2, 39, 1, 41, 8] := by kernel_rfl
@[go_sem] theorem live_145_11 : C.live 145 11 = some [40, 2, 39, 1, 41, 8] := by kernel_rfl
@[go_sem] theorem live_145_12 : C.live 145 12 = some [10, 40, 2, 39, 1, 41, 8] := by kernel_rfl
@[go_sem] theorem live_145_13 : C.live 145 13 = some [40, 2, 39, 1, 41, 11, 8, 12] := by kernel_rfl
@[go_sem] theorem live_145_14 : C.live 145 14 = some [12] := by kernel_rfl
@[go_sem] theorem live_145_15 : C.live 145 15 = some [8, 11, 41, 1, 39, 2, 40] := by kernel_rfl
@[go_sem] theorem live_145_16 : C.live 145 16 = some [41, 8, 1, 39, 2, 40] := by kernel_rfl
@[go_sem] theorem live_145_17 : C.live 145 17 = some [2, 8] := by kernel_rfl
@[go_sem] theorem live_145_18 : C.live 145 18 = some [2, 8] := by kernel_rfl
@[go_sem] theorem live_145_19 : C.live 145 19 = some [] := by kernel_rfl
@[go_sem] theorem live_145_20 : C.live 145 20 = some [] := by kernel_rfl
@[go_sem] theorem live_145_21 : C.live 145 21 = some [2, 8] := by kernel_rfl
@[go_sem] theorem live_145_22 : C.live 145 22 = some [8, 13, 14] := by kernel_rfl
@[go_sem] theorem live_145_23 : C.live 145 23 = some [90, 14, 89, 13, 91] := by kernel_rfl
@[go_sem] theorem live_145_24 : C.live 145 24 = some [90, 14, 89, 13, 91] := by kernel_rfl
@[go_sem] theorem live_145_25 : C.live 145 25 = some [16, 90, 14, 89, 13, 91] := by kernel_rfl
@[go_sem] theorem live_145_26 : C.live 145 26 = some [] := by kernel_rfl
@[go_sem] theorem live_145_27 : C.live 145 27 = some [91, 13, 89, 14, 90] := by kernel_rfl
@[go_sem] theorem live_145_28 : C.live 145 28 = some [14] := by kernel_rfl
@[go_sem] theorem esc_146 : C.esc 146 = [] := by kernel_rfl
@[go_sem] theorem live_146_0 : C.live 146 0 = some [1, 0] := by kernel_rfl
@[go_sem] theorem live_146_1 : C.live 146 1 = some [0, 3] := by kernel_rfl
@[go_sem] theorem live_146_2 : C.live 146 2 = some [3, 0] := by kernel_rfl
@[go_sem] theorem live_146_3 : C.live 146 3 = some [3, 0] := by kernel_rfl
@[go_sem] theorem live_146_4 : C.live 146 4 = some [21, 0, 19, 20] := by kernel_rfl
@[go_sem] theorem live_146_5 : C.live 146 5 = some [21, 0, 19, 20] := by kernel_rfl
@[go_sem] theorem live_146_6 : C.live 146 6 = some [5, 21, 0, 19, 20] := by kernel_rfl
@[go_sem] theorem live_146_7 : C.live 146 7 = some [21, 0, 19, 20] := by kernel_rfl
@[go_sem] theorem live_147_0 : C.live 147 0 = some [1, 0] := by kernel_rfl
@[go_sem] theorem live_147_1 : C.live 147 1 = some [1, 0] := by kernel_rfl
@[go_sem] theorem live_148_0 : C.live 148 0 = some [0] := by kernel_rfl
@[go_sem] theorem live_148_1 : C.live 148 1 = some [0] := by kernel_rfl
@[go_sem] theorem live_148_2 : C.live 148 2 = some [4] := by kernel_rfl
@[go_sem] theorem live_148_3 : C.live 148 3 = some [4] := by kernel_rfl
@[go_sem] theorem live_148_4 : C.live 148 4 = some [4] := by kernel_rfl
@[go_sem] theorem live_148_5 : C.live 148 5 = some [4] := by kernel_rfl
@[go_sem] theorem live_148_6 : C.live 148 6 = some [4] := by kernel_rfl
@[go_sem] theorem live_148_7 : C.live 148 7 = some [4] := by kernel_rfl
@[go_sem] theorem live_148_8 : C.live 148 8 = some [4] := by kernel_rfl
@[go_sem] theorem live_148_9 : C.live 148 9 = some [4] := by kernel_rfl
@[go_sem] theorem live_148_10 : C.live 148 10 = some [4] := by kernel_rfl
@[go_sem] theorem live_148_11 : C.live 148 11 = some [4] := by kernel_rfl
@[go_sem] theorem live_148_13 : C.live 148 13 = some [4] := by kernel_rfl
@[go_sem] theorem live_148_14 : C.live 148 14 = some [4] := by kernel_rfl
@[go_sem] theorem live_148_15 : C.live 148 15 = some [4] := by kernel_rfl
@[go_sem] theorem live_148_17 : C.live 148 17 = some [4] := by kernel_rfl
@[go_sem] theorem live_148_18 : C.live 148 18 = some [4] := by kernel_rfl
@[go_sem] theorem live_148_19 : C.live 148 19 = some [4] := by kernel_rfl
@[go_sem] theorem live_148_21 : C.live 148 21 = some [4] := by kernel_rfl
@[go_sem] theorem live_148_23 : C.live 148 23 = some [4] := by kernel_rfl
@[go_sem] theorem live_148_24 : C.live 148 24 = some [4] := by kernel_rfl
@[go_sem] theorem live_148_25 : C.live 148 25 = some [] := by kernel_rfl
@[go_sem] theorem live_148_22 : C.live 148 22 = some [] := by kernel_rfl
@[go_sem] theorem live_148_20 : C.live 148 20 = some [] := by kernel_rfl
@[go_sem] theorem live_148_16 : C.live 148 16 = some [] := by kernel_rfl
@[go_sem] theorem live_148_12 : C.live 148 12 = some [] := by kernel_rfl
@[go_sem] theorem live_148_26 : C.live 148 26 = some [] := by kernel_rfl
@[go_sem] theorem kind_25 : kindT Tryz.prog 25 = some (3, true) := by kernel_rfl
@[go_sem] theorem len_28 : lenT Tryz.prog 28 = 2 := by kernel_rfl
@[go_sem] theorem arr_28 : arrT Tryz.prog 28 = none := by kernel_rfl
@[go_sem] theorem elem_28 : elemT Tryz.prog 28 = some (9, 1) := by kernel_rfl
@[go_sem] theorem kind_9 : kindT Tryz.prog 9 = some (1, false) := by kernel_rfl
@[go_sem] theorem zero_34 : zeroT Tryz.prog 34 = some (.agg [.nilS, .d (.int .i64 0), .nilS]) := by kernel_rfl
@[go_sem] theorem kind_34 : kindT Tryz.prog 34 = some (3, true) := by kernel_rfl
@[go_sem] theorem len_9 : lenT Tryz.prog 9 = 1 := by kernel_rfl
@[go_sem] theorem zero_25 : zeroT Tryz.prog 25 = some (.agg [.d (.str []), .nilS, .nilS]) := by kernel_rfl
@[go_sem] theorem field_34_1 : fieldT Tryz.prog 34 1 = some (1, 1, false) := by kernel_rfl
@[go_sem] theorem kind_3 : kindT Tryz.prog 3 = some (1, false) := by kernel_rfl
@[go_sem] theorem len_22 : lenT Tryz.prog 22 = 2 := by kernel_rfl
@[go_sem] theorem arr_22 : arrT Tryz.prog 22 = none := by kernel_rfl
@[go_sem] theorem elem_22 : elemT Tryz.prog 22 = some (44, 2) := by kernel_rfl
@[go_sem] theorem field_44_0 : fieldT Tryz.prog 44 0 = some (0, 1, false) := by kernel_rfl
@[go_sem] theorem field_34_2 : fieldT Tryz.prog 34 2 = some (2, 1, false) := by kernel_rfl
@[go_sem] theorem kind_32 : kindT Tryz.prog 32 = some (1, false) := by kernel_rfl
@[go_sem] theorem len_32 : lenT Tryz.prog 32 = 2 := by kernel_rfl
@[go_sem] theorem arr_32 : arrT Tryz.prog 32 = none := by kernel_rfl
@[go_sem] theorem elem_32 : elemT Tryz.prog 32 = some (46, 5) := by kernel_rfl
@[go_sem] theorem kind_46 : kindT Tryz.prog 46 = some (5, true) := by kernel_rfl
@[go_sem] theorem zero_46 : zeroT Tryz.prog 46 = some (.agg [.d (.int .i64 0), .d (.int .i64 0), .d (.int .i64 0), .d (.int .i64 0), .d (.str [])]) := by kernel_rfl
@[go_sem] theorem field_46_1 : fieldT Tryz.prog 46 1 = some (1, 1, false) := by kernel_rfl
@[go_sem] theorem kind_2 : kindT Tryz.prog 2 = some (1, false) := by kernel_rfl
@[go_sem] theorem field_25_1 : fieldT Tryz.prog 25 1 = some (1, 1, false) := by kernel_rfl
@[go_sem] theorem kind_22 : kindT Tryz.prog 22 = some (1, false) := by kernel_rfl
@[go_sem] theorem field_25_0 : fieldT Tryz.prog 25 0 = some (0, 1, false) := by kernel_rfl
@[go_sem] theorem field_25_2 : fieldT Tryz.prog 25 2 = some (2, 1, false) := by kernel_rfl
@[go_sem] theorem kind_23 : kindT Tryz.prog 23 = some (1, false) := by kernel_rfl
@[go_sem] theorem elem_48 : elemT Tryz.prog 48 = some (50, 4) := by kernel_rfl
@[go_sem] theorem zero_50 : zeroT Tryz.prog 50 = some (.agg [.d (.int .i64 0), .d (.int .i64 0), .d (.str []), .nilS]) := by kernel_rfl
@[go_sem] theorem fields_50 : fieldsT Tryz.prog 50 = some [(0, 1), (1, 1), (2, 1), (3, 1)] := by kernel_rfl
@[go_sem] theorem kind_50 : kindT Tryz.prog 50 = some (4, true) := by kernel_rfl
@[go_sem] theorem zero_9 : zeroT Tryz.prog 9 = some (.d (.str [])) := by kernel_rfl
@[go_sem] theorem fields_46 : fieldsT Tryz.prog 46 = some [(0, 1), (1, 1), (2, 1), (3, 1), (4, 1)] := by kernel_rfl
@[go_sem] theorem elem_31 : elemT Tryz.prog 31 = some (3, 1) := by kernel_rfl
@[go_sem] theorem zero_3 : zeroT Tryz.prog 3 = some (.d (.int .i64 0)) := by kernel_rfl
@[go_sem] theorem fields_34 : fieldsT Tryz.prog 34 = some [(0, 1), (1, 1), (2, 1)] := by kernel_rfl
@[go_sem] theorem kind_44 : kindT Tryz.prog 44 = some (2, true) := by kernel_rfl
@[go_sem] theorem zero_44 : zeroT Tryz.prog 44 = some (.agg [.d (.str []), .d (.int .i64 0)]) := by kernel_rfl
@[go_sem] theorem room_9_1 : aroomT Tryz.prog 9 1 = true := by kernel_rfl
@[go_sem] theorem len_60 : lenT Tryz.prog 60 = 2 := by kernel_rfl
@[go_sem] theorem arr_60 : arrT Tryz.prog 60 = none := by kernel_rfl
@[go_sem] theorem elem_60 : elemT Tryz.prog 60 = some (65, 20) := by kernel_rfl
@[go_sem] theorem field_65_1 : fieldT Tryz.prog 65 1 = some (1, 13, true) := by kernel_rfl
@[go_sem] theorem kind_63 : kindT Tryz.prog 63 = some (13, true) := by kernel_rfl
@[go_sem] theorem zero_63 : zeroT Tryz.prog 63 = some (.agg [.d (.int .i64 0), .d (.str []), .d (.int .i64 0), .d (.int .i64 0), .d (.int .i64 0), .d (.str []), .nilS, .d (.int .i64 0), .d (.int .i64 0), .d (.str []), .nilS, .nilS, .nilS]) := by kernel_rfl
@[go_sem] theorem field_63_0 : fieldT Tryz.prog 63 0 = some (0, 1, false) := by kernel_rfl
@[go_sem] theorem field_63_1 : fieldT Tryz.prog 63 1 = some (1, 1, false) := by kernel_rfl
@[go_sem] theorem zero_70 : zeroT Tryz.prog 70 = some (.agg [.nilS, .nilS]) := by kernel_rfl
@[go_sem] theorem fields_70 : fieldsT Tryz.prog 70 = some [(0, 1), (1, 1)] := by kernel_rfl
@[go_sem] theorem field_70_1 : fieldT Tryz.prog 70 1 = some (1, 1, false) := by kernel_rfl
@[go_sem] theorem kind_28 : kindT Tryz.prog 28 = some (1, false) := by kernel_rfl
@[go_sem] theorem field_70_0 : fieldT Tryz.prog 70 0 = some (0, 1, true) := by kernel_rfl
@[go_sem] theorem field_68_0 : fieldT Tryz.prog 68 0 = some (0, 1, false) := by kernel_rfl
@[go_sem] theorem field_34_0 : fieldT Tryz.prog 34 0 = some (0, 1, false) := by kernel_rfl
@[go_sem] theorem kind_31 : kindT Tryz.prog 31 = some (1, false) := by kernel_rfl
@[go_sem] theorem field_44_1 : fieldT Tryz.prog 44 1 = some (1, 1, false) := by kernel_rfl
@[go_sem] theorem room_3_1 : aroomT Tryz.prog 3 1 = true := by kernel_rfl
@[go_sem] theorem room_46_5 : aroomT Tryz.prog 46 5 = true := by kernel_rfl
@[go_sem] theorem len_31 : lenT Tryz.prog 31 = 2 := by kernel_rfl
@[go_sem] theorem arr_31 : arrT Tryz.prog 31 = none := by kernel_rfl
@[go_sem] theorem fields_25 : fieldsT Tryz.prog 25 = some [(0, 1), (1, 1), (2, 1)] := by kernel_rfl
@[go_sem] theorem fields_44 : fieldsT Tryz.prog 44 = some [(0, 1), (1, 1)] := by kernel_rfl
@[go_sem] theorem room_44_2 : aroomT Tryz.prog 44 2 = true := by kernel_rfl
@[go_sem] theorem field_65_0 : fieldT Tryz.prog 65 0 = some (0, 1, false) := by kernel_rfl
@[go_sem] theorem kind_4 : kindT Tryz.prog 4 = some (1, false) := by kernel_rfl
@[go_sem] theorem field_63_3 : fieldT Tryz.prog 63 3 = some (3, 4, true) := by kernel_rfl
@[go_sem] theorem len_23 : lenT Tryz.prog 23 = 2 := by kernel_rfl
@[go_sem] theorem arr_23 : arrT Tryz.prog 23 = none := by kernel_rfl
@[go_sem] theorem elem_23 : elemT Tryz.prog 23 = some (63, 13) := by kernel_rfl
@[go_sem] theorem field_63_4 : fieldT Tryz.prog 63 4 = some (7, 4, true) := by kernel_rfl
@[go_sem] theorem field_63_5 : fieldT Tryz.prog 63 5 = some (11, 1, false) := by kernel_rfl
@[go_sem] theorem field_63_6 : fieldT Tryz.prog 63 6 = some (12, 1, false) := by kernel_rfl
@[go_sem] theorem flat_46 : flatT Tryz.prog 46 = some [1, 1, 1, 1, 2] := by kernel_rfl
@[go_sem] theorem map_84 : mapT Tryz.prog 84 = some (2, 3) := by kernel_rfl
@[go_sem] theorem zero_94 : zeroT Tryz.prog 94 = some (.agg [.d (.int .i64 0), .d (.int .i64 0), .d (.int .i64 0), .d (.int .i64 0)]) := by kernel_rfl
@[go_sem] theorem kind_94 : kindT Tryz.prog 94 = some (4, true) := by kernel_rfl
@[go_sem] theorem arr_94 : arrT Tryz.prog 94 = some (4, 1, false) := by kernel_rfl
@[go_sem] theorem field_65_2 : fieldT Tryz.prog 65 2 = some (14, 1, false) := by kernel_rfl
@[go_sem] theorem str_9 : strT Tryz.prog 9 = true := by kernel_rfl
@[go_sem] theorem field_65_3 : fieldT Tryz.prog 65 3 = some (15, 4, true) := by kernel_rfl
@[go_sem] theorem field_50_0 : fieldT Tryz.prog 50 0 = some (0, 1, false) := by kernel_rfl
@[go_sem] theorem field_50_2 : fieldT Tryz.prog 50 2 = some (2, 1, false) := by kernel_rfl
@[go_sem] theorem room_63_13 : aroomT Tryz.prog 63 13 = true := by kernel_rfl
@[go_sem] theorem field_50_3 : fieldT Tryz.prog 50 3 = some (3, 1, false) := by kernel_rfl
@[go_sem] theorem kind_48 : kindT Tryz.prog 48 = some (1, false) := by kernel_rfl
@[go_sem] theorem len_48 : lenT Tryz.prog 48 = 2 := by kernel_rfl
@[go_sem] theorem arr_48 : arrT Tryz.prog 48 = none := by kernel_rfl
@[go_sem] theorem field_50_1 : fieldT Tryz.prog 50 1 = some (1, 1, false) := by kernel_rfl
@[go_sem] theorem map_114 : mapT Tryz.prog 114 = some (2, 4) := by kernel_rfl
@[go_sem] theorem zero_4 : zeroT Tryz.prog 4 = some (.d (.bool false)) := by kernel_rfl
@[go_sem] theorem zero_116 : zeroT Tryz.prog 116 = some (.agg [.nilM, .nilM, .nilM]) := by kernel_rfl
@[go_sem] theorem fields_116 : fieldsT Tryz.prog 116 = some [(0, 1), (1, 1), (2, 1)] := by kernel_rfl
@[go_sem] theorem field_116_2 : fieldT Tryz.prog 116 2 = some (2, 1, false) := by kernel_rfl
@[go_sem] theorem kind_84 : kindT Tryz.prog 84 = some (1, false) := by kernel_rfl
@[go_sem] theorem zero_28 : zeroT Tryz.prog 28 = some (.nilS) := by kernel_rfl
@[go_sem] theorem zero_65 : zeroT Tryz.prog 65 = some (.agg [.d (.bool false), .d (.int .i64 0), .d (.str []), .d (.int .i64 0), .d (.int .i64 0), .d (.int .i64 0), .d (.str []), .nilS, .d (.int .i64 0), .d (.int .i64 0), .d (.str []), .nilS, .nilS, .nilS, .d (.int .i64 0), .d (.int .i64 0), .d (.int .i64 0), .d (.str []), .nilS, .d (.bool false)]) := by kernel_rfl
@[go_sem] theorem fields_65 : fieldsT Tryz.prog 65 = some [(0, 1), (1, 13), (14, 1), (15, 4), (19, 1)] := by kernel_rfl
@[go_sem] theorem room_65_20 : aroomT Tryz.prog 65 20 = true := by kernel_rfl
@[go_sem] theorem field_63_2 : fieldT Tryz.prog 63 2 = some (2, 1, false) := by kernel_rfl
@[go_sem] theorem room_50_4 : aroomT Tryz.prog 50 4 = true := by kernel_rfl
@[go_sem] theorem zero_35 : zeroT Tryz.prog 35 = some (.d (.int .i64 0)) := by kernel_rfl
@[go_sem] theorem kind_35 : kindT Tryz.prog 35 = some (1, false) := by kernel_rfl
@[go_sem] theorem field_116_0 : fieldT Tryz.prog 116 0 = some (0, 1, false) := by kernel_rfl
@[go_sem] theorem zero_142 : zeroT Tryz.prog 142 = some (.agg [.d (.int .i64 0), .nilF, .nilF]) := by kernel_rfl
@[go_sem] theorem fields_142 : fieldsT Tryz.prog 142 = some [(0, 1), (1, 1), (2, 1)] := by kernel_rfl
@[go_sem] theorem field_142_0 : fieldT Tryz.prog 142 0 = some (0, 1, false) := by kernel_rfl
@[go_sem] theorem conv_5_21 : convT Tryz.prog 5 21 = some .i32 := by kernel_rfl
@[go_sem] theorem zero_161 : zeroT Tryz.prog 161 = some (.agg [.d (.bool false), .d (.bool false), .d (.bool false), .d (.bool false), .d (.bool false), .d (.bool false)]) := by kernel_rfl
@[go_sem] theorem kind_161 : kindT Tryz.prog 161 = some (6, true) := by kernel_rfl
@[go_sem] theorem field_161_0 : fieldT Tryz.prog 161 0 = some (0, 1, false) := by kernel_rfl
@[go_sem] theorem field_161_1 : fieldT Tryz.prog 161 1 = some (1, 1, false) := by kernel_rfl
@[go_sem] theorem field_161_2 : fieldT Tryz.prog 161 2 = some (2, 1, false) := by kernel_rfl
@[go_sem] theorem field_116_1 : fieldT Tryz.prog 116 1 = some (1, 1, false) := by kernel_rfl
@[go_sem] theorem kind_114 : kindT Tryz.prog 114 = some (1, false) := by kernel_rfl
@[go_sem] theorem field_142_1 : fieldT Tryz.prog 142 1 = some (1, 1, false) := by kernel_rfl
@[go_sem] theorem kind_119 : kindT Tryz.prog 119 = some (1, false) := by kernel_rfl
@[go_sem] theorem zero_48 : zeroT Tryz.prog 48 = some (.nilS) := by kernel_rfl
@[go_sem] theorem fields_161 : fieldsT Tryz.prog 161 = some [(0, 1), (1, 1), (2, 1), (3, 1), (4, 1), (5, 1)] := by kernel_rfl
@[go_sem] theorem field_161_3 : fieldT Tryz.prog 161 3 = some (3, 1, false) := by kernel_rfl
@[go_sem] theorem field_161_4 : fieldT Tryz.prog 161 4 = some (4, 1, false) := by kernel_rfl
@[go_sem] theorem field_161_5 : fieldT Tryz.prog 161 5 = some (5, 1, false) := by kernel_rfl
@[go_sem] theorem field_142_2 : fieldT Tryz.prog 142 2 = some (2, 1, false) := by kernel_rfl
@[go_sem] theorem kind_120 : kindT Tryz.prog 120 = some (1, false) := by kernel_rfl
attribute [go_sem] List.getElem?_toArray List.getElem?_cons_zero List.getElem?_cons_succ List.length_cons List.length_nil List.take_succ_cons List.take_zero List.drop_succ_cons List.drop_zero List.drop_nil List.take_nil List.nil_append List.cons_append List.append_nil List.contains_cons List.contains_nil Bool.or_false Bool.false_or Bool.or_true Bool.true_or Bool.and_true Bool.true_and Bool.and_false Bool.false_and Bool.not_true Bool.not_false Bool.not_not Option.isSome_some Option.isSome_none List.map_cons List.map_nil ite_not not_true_eq_false not_false_eq_true Nat.zero_add Nat.add_zero
end Go.Proofs.YtjmghomnbmbjnaaGreat
