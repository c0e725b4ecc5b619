/- Facts of this program that the walks look up: which slots live on, which escape, how wide the types are. -/
import Derived.Test.YtdcmimpjmngdlaaProg
import Derived.KernelRfl
import Derived.Test.YtdcmimpjmngdlaaGenC
import Derived.Test.YtdcmimpjmngdlaaGenB
set_option linter.unusedVariables false
set_option linter.unusedSimpArgs false
set_option linter.all false
set_option linter.deprecated false
set_option linter.unusedVariables false
set_option linter.all false
namespace Go.Proofs.Ytdcmimpjmngdlaa
open Go.Abs
def escT (f : Nat) : List Nat := bif Nat.blt f 67 then (bif Nat.blt f 33 then (bif Nat.blt f 16 then ([]) else (bif Nat.blt f 24 then ([]) else (bif Nat.blt f 28 then ([]) else (bif Nat.blt f 30 then ([]) else (bif Nat.blt f 31 then ([10]) else (bif Nat.blt f 32 then ([3]) else ([]))))))) else (bif Nat.blt f 50 then (bif Nat.blt f 41 then (bif Nat.blt f 37 then ([]) else (bif Nat.blt f 39 then ([]) else ([2]))) else (bif Nat.blt f 45 then ([]) else (bif Nat.blt f 47 then ([]) else (bif Nat.blt f 48 then ([21]) else (bif Nat.blt f 49 then ([]) else ([11])))))) else ([]))) else (bif Nat.blt f 101 then (bif Nat.blt f 84 then (bif Nat.blt f 75 then (bif Nat.blt f 71 then (bif Nat.blt f 69 then ([]) else (bif Nat.blt f 70 then ([3]) else ([]))) else ([])) else ([])) else (bif Nat.blt f 92 then (bif Nat.blt f 88 then (bif Nat.blt f 86 then (bif Nat.blt f 85 then ([]) else ([4])) else ([])) else ([])) else ([]))) else ([]))
def liveL (f : Nat) : List (Nat × List Nat) := bif Nat.blt f 67 then (bif Nat.blt f 33 then (bif Nat.blt f 16 then (bif Nat.blt f 8 then (bif Nat.blt f 4 then (bif Nat.blt f 2 then ([]) else (bif Nat.blt f 3 then ([(0, [])]) else ([(0, [0]), (1, [1]), (2, []), (3, [1])]))) else (bif Nat.blt f 6 then (bif Nat.blt f 5 then ([(0, [0]), (1, [1]), (2, []), (3, [1]), (4, [3, 1])]) else ([(0, [0]), (1, [1]), (2, []), (3, [1])])) else (bif Nat.blt f 7 then ([(0, [0, 2, 1]), (1, [3, 2, 1]), (2, []), (3, [1, 2, 3]), (4, [8, 1, 2, 7, 3]), (5, []), (6, [3, 7, 2, 1]), (7, [3, 7, 9, 2, 10, 1]), (8, []), (9, [1, 10, 2, 9]), (10, [9, 2, 10, 1, 11]), (12, [9, 2, 10, 1, 11]), (13, []), (11, [11, 1, 10, 2, 9]), (14, [])]) else ([(0, [0]), (1, [1]), (2, []), (3, [1]), (4, [3, 1]), (5, [4, 3, 1]), (6, [4, 3, 1, 5]), (7, [4, 6, 3, 1, 5]), (9, [4, 6, 3, 1, 5]), (10, [4, 7, 6, 3, 1, 5]), (11, [4, 7, 6, 3, 1, 5]), (8, [6, 4, 3, 1, 5]), (12, [1, 4, 5, 3]), (13, [1, 8, 4, 5, 3]), (14, [3, 5, 4, 8, 1, 9]), (16, [3, 5, 4, 8, 1, 9]), (17, []), (15, [9, 1, 8, 4, 5, 3]), (18, [8, 5, 3, 1]), (19, [5, 10, 8, 3, 1]), (21, [5, 10, 8, 3, 1]), (22, [5, 11, 10, 8, 3, 1]), (24, [11, 10, 8, 5, 3, 1]), (23, [5, 11, 10, 8, 3, 1]), (25, [5, 11, 10, 8, 3, 1]), (20, [10, 8, 5, 3, 1]), (26, [5, 1])])))) else (bif Nat.blt f 12 then (bif Nat.blt f 10 then (bif Nat.blt f 9 then ([(0, [0, 1]), (1, [1, 2]), (2, []), (3, [2, 1]), (4, [1, 2, 5]), (6, [1, 2, 5]), (7, []), (5, [5, 2, 1]), (8, [2, 1])]) else ([(0, []), (1, []), (2, [1]), (3, [2, 1]), (4, [1, 3]), (5, [3, 4]), (6, [3, 4, 5])])) else (bif Nat.blt f 11 then ([(0, [0, 1]), (1, [0, 1]), (2, []), (3, [1, 0]), (4, [0, 1, 5]), (6, [0, 1, 5]), (7, []), (5, [5, 1, 0]), (8, [])]) else ([(0, [0]), (1, [1]), (2, []), (3, [1]), (4, [1, 3]), (5, [1, 4, 3]), (6, [4, 15, 3, 13, 14]), (7, [4, 15, 3, 13, 14]), (8, [4, 6, 15, 3, 13, 14]), (9, [4, 6, 15, 3, 13, 14]), (10, [15, 4, 3, 13, 14]), (11, [4])]))) else (bif Nat.blt f 14 then (bif Nat.blt f 13 then ([(0, [0]), (1, [1]), (2, []), (3, [1]), (4, [1, 3]), (5, [4, 3]), (6, [4, 5, 3]), (7, [5, 6, 4, 3]), (9, [5, 6, 4, 3]), (10, [5, 6, 4, 3]), (8, [6, 4, 5, 3]), (11, [5])]) else ([(0, [0]), (1, [1]), (2, [1, 3]), (3, [3]), (4, [1]), (5, [1, 4]), (6, [4, 1, 5]), (8, [4, 1, 5]), (9, []), (10, [5, 1, 4]), (7, [5, 1, 4]), (11, [4, 1]), (12, [6, 4, 1]), (13, [7, 6, 4, 1]), (15, [7, 6, 4, 1]), (16, [1, 4, 6, 7, 8]), (18, [1, 4, 6, 7, 8]), (19, []), (17, [8, 7, 6, 4, 1]), (14, [7, 6, 4, 1]), (20, [4, 1])])) else (bif Nat.blt f 15 then ([(0, [1, 2, 0]), (1, [1, 2, 0]), (2, [7, 1, 2, 0]), (4, [7, 1, 2, 0]), (5, [7, 1, 2, 0, 8]), (6, [7, 1, 2, 0, 9, 8]), (7, []), (8, [8, 9, 0, 2, 1, 7]), (9, []), (3, [7, 1, 2, 0]), (10, [])]) else ([(0, [0, 1]), (1, [0, 1]), (2, [1, 0, 5]), (4, [1, 0, 5]), (5, []), (3, [5, 0, 1]), (6, [])]))))) else (bif Nat.blt f 24 then (bif Nat.blt f 20 then (bif Nat.blt f 18 then (bif Nat.blt f 17 then ([(0, [0]), (1, [1]), (2, [1, 3]), (3, [3, 4, 1]), (5, [3, 4, 1]), (4, [4, 1, 3]), (6, [1, 3]), (7, [5, 3]), (8, [3, 6, 5]), (10, [3, 6, 5]), (11, [3, 6, 5]), (9, [6, 5, 3]), (12, [3])]) else ([(0, [0]), (1, [1]), (2, [3]), (3, [3, 4]), (5, [3, 4]), (6, []), (4, [4, 3]), (7, [])])) else ([(0, [0]), (1, [1])])) else (bif Nat.blt f 22 then (bif Nat.blt f 21 then ([(0, [0]), (1, [1])]) else ([(0, [0, 1, 2]), (1, [1, 3, 2, 6]), (2, [6]), (3, [2, 3, 1, 6]), (4, [6]), (5, [1, 3, 2, 6]), (6, [1, 8, 3, 2, 6]), (7, [1, 8, 9, 3, 2, 6]), (8, [9, 10, 1, 8, 3, 2, 6]), (10, [9, 10, 1, 8, 3, 2, 6]), (9, [10, 1, 8, 9, 3, 2, 6]), (11, [9, 3, 2, 1, 6]), (12, [6]), (13, [1, 2, 3, 6]), (14, [6]), (15, [3, 2, 1, 6]), (16, [11, 3, 2, 1, 6]), (17, [12, 11, 3, 2, 1, 6]), (19, [12, 11, 3, 2, 1, 6]), (18, [12, 11, 3, 2, 1, 6]), (20, [11, 6])])) else (bif Nat.blt f 23 then ([(0, [0]), (1, [1])]) else ([(0, [1, 0]), (1, [1, 0]), (2, [0, 1, 5]), (4, [0, 1, 5]), (5, []), (3, [5, 1, 0]), (6, [])])))) else (bif Nat.blt f 28 then (bif Nat.blt f 26 then (bif Nat.blt f 25 then ([(0, [0]), (1, [0])]) else ([(0, [1, 0]), (1, [1, 0]), (2, [1, 0, 5]), (3, [5, 6, 1, 0]), (5, [5, 6, 1, 0]), (6, [5, 6, 1, 0]), (7, [5, 6, 1, 0]), (8, [5, 6, 1, 0]), (9, [5, 6, 1, 0]), (4, [6, 1, 0, 5]), (10, [5])])) else (bif Nat.blt f 27 then ([(0, [0]), (1, [0, 2])]) else ([(0, [1, 0]), (1, [0, 3, 4])]))) else (bif Nat.blt f 30 then (bif Nat.blt f 29 then ([(0, [0]), (1, [0, 2])]) else ([(0, [0]), (1, [1]), (2, [4])])) else (bif Nat.blt f 31 then ([(0, [0]), (1, [1]), (2, [3, 1]), (3, [14, 3, 12, 1, 13]), (4, [14, 3, 12, 1, 13]), (5, [5, 14, 3, 12, 1, 13]), (6, [14, 3, 12, 1, 13]), (7, [1, 3]), (8, [6, 1, 3]), (9, [1, 3]), (10, [1, 3, 6]), (11, [3])]) else (bif Nat.blt f 32 then ([(0, [0]), (1, [1]), (2, [3, 1]), (3, [9, 3, 7, 1, 8]), (4, [9, 3, 7, 1, 8]), (5, [5, 9, 3, 7, 1, 8]), (6, [9, 3, 7, 1, 8]), (7, [1, 3]), (8, [3])]) else ([(0, [0]), (1, [1]), (2, [3, 1]), (3, [4, 3, 1]), (4, [3, 1]), (5, [3, 1, 4]), (6, [3])]))))))) else (bif Nat.blt f 50 then (bif Nat.blt f 41 then (bif Nat.blt f 37 then (bif Nat.blt f 35 then (bif Nat.blt f 34 then ([(0, [1, 0]), (1, [1, 0]), (2, [0, 1, 5]), (4, [0, 1, 5]), (5, []), (3, [5, 1, 0]), (6, [])]) else ([(0, [0]), (1, [1]), (2, []), (3, [1]), (4, [1, 3]), (5, [3]), (6, [1]), (7, [4]), (8, [4, 5]), (10, [4, 5]), (11, [4, 5]), (12, [4, 5, 6]), (13, [6]), (9, [5, 4]), (14, [4]), (15, []), (16, [])])) else (bif Nat.blt f 36 then ([(0, [0, 2, 3, 1]), (1, [2, 4, 3, 1, 8]), (2, [2, 4, 3, 1, 9, 8]), (3, [2, 4, 3, 1, 9, 8]), (4, [4, 3, 1, 9, 8]), (5, [3, 1, 9, 8]), (6, [1, 9, 8]), (7, [9, 8])]) else ([(0, [0, 1]), (1, [2, 1]), (2, [1, 2, 5]), (4, [1, 2, 5]), (5, [1, 2, 5, 6]), (6, [9, 8, 1, 2, 5, 7, 6]), (7, [8, 1, 2, 5, 7, 6]), (8, [8, 9, 1, 2, 5, 7, 6]), (9, [1, 2, 5, 7, 6]), (10, [9, 1, 2, 5, 7, 6]), (11, [1, 2, 5, 7, 6]), (12, [9, 1, 2, 5, 7, 6]), (13, [1, 2, 5, 7, 6]), (14, [9, 1, 2, 5, 7, 6]), (15, [1, 2, 5, 7, 6]), (16, [1, 2, 5, 7, 6, 9]), (17, [9]), (18, [6, 7, 5, 2, 1]), (19, [6, 7, 5, 2, 1]), (3, [5, 2, 1]), (20, [])]))) else (bif Nat.blt f 39 then (bif Nat.blt f 38 then ([(0, [0, 1]), (1, [2, 1]), (2, []), (3, [1, 2]), (4, [2, 1, 5]), (6, [2, 1, 5]), (7, []), (5, [5, 1, 2]), (8, [])]) else ([(0, [0]), (1, [1]), (2, [3]), (3, [3, 4]), (4, [4, 5, 3]), (6, [4, 5, 3]), (7, [4, 5, 3]), (5, [5, 3, 4]), (8, [4])])) else ([(0, [0, 1]), (1, [1, 2])]))) else (bif Nat.blt f 45 then (bif Nat.blt f 43 then (bif Nat.blt f 42 then ([(0, [0]), (1, [0])]) else ([(0, [0, 1]), (1, [1, 2]), (2, [2, 1, 5]), (4, [2, 1, 5]), (5, []), (3, [5, 1, 2]), (6, [2, 1]), (7, [1, 6]), (8, [6, 1, 7]), (10, [6, 1, 7]), (11, []), (9, [7, 1, 6]), (12, [])])) else (bif Nat.blt f 44 then ([(0, [2, 1, 0]), (1, [2, 1, 0]), (2, [7, 2, 1, 0]), (3, [7, 8, 2, 1, 0]), (5, [7, 8, 2, 1, 0]), (6, [7, 9, 8, 2, 1, 0]), (7, [7, 9, 8, 2, 1, 0]), (8, [7, 9, 8, 2, 1, 0]), (9, [7, 9, 8, 2, 1, 0]), (10, [7, 9, 8, 2, 1, 0]), (11, [7, 9, 8, 2, 1, 0]), (4, [8, 7, 2, 1, 0]), (12, [7])]) else ([(0, [1, 0, 2]), (1, [1, 0, 2]), (2, [2]), (3, [0])]))) else (bif Nat.blt f 47 then (bif Nat.blt f 46 then ([(0, [2, 1, 0]), (1, [2, 1, 0]), (2, [0, 7, 2, 1]), (4, [0, 7, 2, 1]), (5, [0, 7, 2, 1]), (6, [0, 7, 2, 1]), (7, [0, 7, 2, 1]), (8, [0, 7, 2, 1]), (9, [0, 7, 2, 1]), (10, [0, 7, 2, 1]), (3, [7, 2, 1, 0]), (11, [0])]) else ([(0, [0, 1]), (1, [1, 2]), (2, [5, 1, 2]), (3, [5, 6, 1, 2]), (5, [5, 6, 1, 2]), (4, [6, 5, 1, 2]), (6, [5])])) else (bif Nat.blt f 48 then ([(0, [0]), (1, [1]), (2, [1, 4]), (3, [4]), (4, [1]), (5, [5, 1]), (6, [24, 1, 23, 5, 25]), (7, [24, 1, 23, 5, 25]), (8, [24, 1, 23, 5, 25, 7]), (9, []), (10, [7, 25, 5, 23, 1, 24]), (11, [25, 5, 23, 1, 24]), (12, [1, 5]), (13, [8, 1, 5]), (14, [42, 5, 1, 41, 8, 43]), (15, [42, 5, 1, 41, 8, 43]), (16, [42, 5, 1, 41, 8, 43, 10]), (17, []), (18, [10, 43, 8, 41, 1, 5, 42]), (19, [43, 8, 41, 1, 5, 42]), (20, [1, 5]), (21, [5, 11])]) else (bif Nat.blt f 49 then ([(0, [1, 2, 0]), (1, [12, 2, 0, 10, 11]), (2, [12, 2, 0, 10, 11]), (3, [7, 12, 2, 0, 10, 11]), (4, [7, 8, 12, 2, 0, 10, 11]), (5, [7, 8, 12, 2, 0, 10, 11]), (6, [7, 8, 12, 2, 0, 10, 11]), (7, [7, 9, 8, 12, 2, 0, 10, 11]), (8, [7, 9, 8, 12, 2, 0, 10, 11]), (9, [12, 2, 0, 10, 11])]) else ([(0, [0, 1, 2]), (1, [1, 2, 3]), (2, [3, 7]), (3, [7])])))))) else (bif Nat.blt f 58 then (bif Nat.blt f 54 then (bif Nat.blt f 52 then (bif Nat.blt f 51 then ([(0, [0, 2]), (1, [3, 2]), (2, [3, 2])]) else ([(0, [0])])) else (bif Nat.blt f 53 then ([(0, [1, 2, 0]), (1, [1, 2, 0]), (2, [1, 7, 2, 0]), (4, [1, 7, 2, 0]), (5, [1, 8, 7, 2, 0]), (6, [9, 1, 8, 7, 2, 0]), (7, [9, 1, 8, 7, 2, 0]), (8, [1, 8, 9, 7, 2, 0]), (9, [1, 8, 9, 7, 2, 0]), (10, [10, 1, 8, 9, 7, 2, 0]), (11, [10, 8, 9, 7, 2, 0]), (12, [10, 8, 9, 7, 2, 0]), (13, [1, 8, 9, 7, 2, 0]), (14, [8, 1, 9, 7, 2, 0]), (3, [7, 1, 2, 0]), (15, [1])]) else ([(0, [0]), (1, [0]), (2, []), (3, [0]), (4, [3, 0]), (6, [3, 0]), (7, []), (8, [0, 3]), (9, []), (10, [3, 0]), (11, [0, 3, 4]), (13, [0, 3, 4]), (14, []), (12, [4, 3, 0]), (5, [3, 0]), (15, [])]))) else (bif Nat.blt f 56 then (bif Nat.blt f 55 then ([(0, [0, 1]), (1, [2, 1]), (2, [6, 9, 10, 5, 8, 2, 1, 7]), (3, []), (4, [7, 1, 2, 8, 5]), (5, []), (6, [5, 8, 2, 1, 7]), (7, []), (8, [7, 1, 2, 8]), (9, [1, 2, 8]), (10, [1, 2, 8, 11]), (11, [11]), (12, [8, 2, 1]), (13, [2, 1]), (14, [1, 12]), (15, [12]), (16, [1]), (17, []), (18, [])]) else ([(0, [0, 1]), (1, [3, 2]), (2, []), (3, [2, 3]), (4, [2, 3, 7, 8]), (5, [7, 8]), (6, [3, 2, 7]), (7, [7, 9, 8])])) else (bif Nat.blt f 57 then ([(0, [0, 2, 1]), (1, [2, 3, 1]), (2, [7, 2, 3, 1, 8]), (3, [8]), (4, [1, 3, 2, 7]), (5, [7, 2, 3, 1, 9]), (7, [7, 2, 3, 1, 9]), (8, []), (6, [9, 1, 3, 2, 7]), (9, [2, 7]), (10, []), (11, [])]) else ([(0, [0, 1, 2]), (1, [0, 1, 2]), (2, [7, 1, 2]), (4, [7, 2, 1]), (6, [2, 7, 1]), (8, [7, 1, 2]), (10, [7, 1]), (11, [1]), (9, [1, 2]), (7, [1]), (5, [1]), (3, [1, 2]), (12, [])])))) else (bif Nat.blt f 62 then (bif Nat.blt f 60 then (bif Nat.blt f 59 then ([(0, [0, 1]), (1, [0, 1])]) else ([(0, [0, 1]), (1, [1, 2])])) else ([(0, [1, 0]), (1, [3, 0])])) else (bif Nat.blt f 64 then (bif Nat.blt f 63 then ([(0, [0, 1]), (1, [1, 2])]) else ([(0, [0]), (1, [0])])) else (bif Nat.blt f 65 then ([(0, [1, 0]), (1, [1, 0]), (2, [1, 0]), (3, [1])]) else (bif Nat.blt f 66 then ([(0, [0]), (1, [0])]) else ([(0, [0, 2, 1]), (1, [2, 1, 3, 6]), (2, [7, 2, 1, 3, 6]), (3, [7, 2, 1, 3, 6]), (4, [7, 2, 1, 3, 6]), (5, [8, 7, 2, 1, 3, 6]), (7, [8, 7, 2, 1, 3, 6]), (6, [8, 7, 2, 1, 3, 6]), (8, [7, 6])])))))))) else (bif Nat.blt f 101 then (bif Nat.blt f 84 then (bif Nat.blt f 75 then (bif Nat.blt f 71 then (bif Nat.blt f 69 then (bif Nat.blt f 68 then ([(0, [0]), (1, [1])]) else ([(0, [1, 2, 0]), (1, [4, 2, 0]), (2, [0]), (3, [0, 2, 4]), (4, [4, 0]), (5, [0, 7, 4]), (7, [0, 7, 4]), (6, [7, 4, 0]), (8, [0])])) else (bif Nat.blt f 70 then ([(0, [0]), (1, [1]), (2, []), (3, [1]), (4, [1, 3]), (5, [3]), (6, [1, 3]), (7, [4, 3]), (8, []), (9, [3])]) else ([(0, [0, 1, 2]), (1, [0, 1, 2])]))) else (bif Nat.blt f 73 then (bif Nat.blt f 72 then ([(0, [0, 1]), (1, [0, 1]), (2, [11, 1, 10, 0, 12]), (3, [11, 1, 10, 0, 12]), (4, [6, 11, 1, 10, 0, 12]), (5, [11, 1, 10, 0, 12, 7]), (6, [7]), (7, [12, 0, 10, 1, 11]), (8, [1, 0]), (9, [25, 0, 23, 24]), (10, [25, 0, 23, 24]), (11, [9, 25, 0, 23, 24]), (12, [9, 25, 0, 23, 24]), (13, [25, 0, 23, 24]), (14, [])]) else ([(0, [1, 0, 2]), (1, [9, 8, 2, 0, 10]), (2, [9, 8, 2, 0, 10]), (3, [9, 8, 2, 0, 10, 7]), (4, [7, 10, 0, 2, 8, 9]), (5, [7, 10, 0, 2, 8, 9]), (6, [7, 10, 0, 2, 8, 9]), (7, [7, 10, 0, 2, 8, 9]), (8, [7, 10, 0, 2, 8, 9]), (9, [7, 10, 0, 2, 8, 9]), (10, [10, 0, 2, 8, 9])])) else (bif Nat.blt f 74 then ([(0, [0, 1]), (1, [2, 1]), (2, []), (3, [1, 2]), (4, [2, 1, 5]), (6, [2, 1, 5]), (7, []), (5, [5, 1, 2]), (8, [])]) else ([(0, [0]), (1, [0]), (2, [8]), (3, [8]), (5, [8]), (7, [8]), (8, [8]), (10, [8]), (12, [8]), (13, []), (11, []), (9, []), (6, []), (4, []), (14, [])])))) else (bif Nat.blt f 79 then (bif Nat.blt f 77 then (bif Nat.blt f 76 then ([(0, [0]), (1, [1])]) else ([(0, [0, 1]), (1, [1, 2]), (2, [1, 2, 6]), (3, [6]), (4, [2, 1])])) else (bif Nat.blt f 78 then ([(0, [0, 1]), (1, [0, 1]), (2, [1, 6, 0]), (4, [1, 6, 0]), (5, [6, 0]), (6, []), (7, [0, 6]), (3, [6, 0, 1]), (8, [])]) else ([(0, [0, 1]), (1, [0, 1]), (2, [7, 1, 0, 8]), (3, [7, 1, 0, 8]), (4, [7, 1, 0, 8, 5]), (5, [5]), (6, [8, 0, 1, 7]), (7, [])]))) else (bif Nat.blt f 81 then (bif Nat.blt f 80 then ([(0, [0]), (1, [0])]) else ([(0, [0, 1]), (1, [0, 1])])) else (bif Nat.blt f 82 then ([(0, [0]), (1, [0])]) else (bif Nat.blt f 83 then ([(0, [1, 0]), (1, [1, 0]), (2, [0, 1, 5]), (4, [0, 1, 5]), (5, []), (3, [5, 1, 0]), (6, [])]) else ([(0, []), (1, [])])))))) else (bif Nat.blt f 92 then (bif Nat.blt f 88 then (bif Nat.blt f 86 then (bif Nat.blt f 85 then ([(0, [0]), (1, [0])]) else ([(0, [0]), (1, [0]), (2, []), (3, [0]), (4, [9, 8, 0, 10]), (5, [9, 8, 0, 10]), (6, [3, 4, 9, 8, 0, 10]), (8, [10, 0, 8, 9, 4, 3]), (10, [3, 4, 9, 8, 0, 10]), (11, []), (9, []), (7, []), (12, [10, 0, 8, 9]), (13, [])])) else (bif Nat.blt f 87 then ([(0, [0, 1, 2]), (1, [3, 1, 2]), (2, [3, 1, 2])]) else ([(0, [0, 1]), (1, [1, 2]), (2, [6, 1, 2, 5]), (3, []), (4, [5, 2, 1]), (5, []), (6, [1, 2, 5]), (7, [1, 2, 5]), (8, [1, 2, 5, 7]), (9, [7]), (10, [5, 2, 1]), (11, [2, 1]), (12, [1, 8]), (13, [8]), (14, [1]), (15, []), (16, [])]))) else (bif Nat.blt f 90 then (bif Nat.blt f 89 then ([(0, [1, 0]), (1, [3, 0]), (2, [5, 3, 0, 6, 7]), (3, [7]), (4, [6, 0, 3, 5]), (5, [23, 6, 0, 3, 5]), (7, [6, 23, 5, 3, 0]), (15, [3, 0, 23, 5, 6]), (18, [6, 23, 0, 3, 5]), (21, [3, 0, 23, 6, 5]), (24, [6, 23, 5, 0, 3]), (31, [23, 5, 6, 3, 0]), (32, [5, 6, 3, 0]), (33, []), (34, [0, 3]), (35, [0, 3]), (36, [0, 3]), (37, [0, 3, 11]), (38, [11]), (25, [5, 0, 3]), (26, []), (27, [3, 0]), (28, [3, 0, 10]), (29, [10]), (30, [0, 3]), (22, [5]), (23, []), (19, [5]), (20, []), (16, [5, 6]), (17, []), (8, [5, 3, 0]), (9, [9, 8, 5, 3, 0]), (11, [0, 3, 5, 8]), (13, [8, 5]), (14, []), (12, []), (10, []), (6, [0, 3, 5]), (39, [])]) else ([(0, [1, 0]), (1, [3, 0]), (2, [0, 3]), (3, [0, 3])])) else (bif Nat.blt f 91 then ([(0, [0, 1]), (1, [2, 1]), (2, [2, 1, 5]), (3, [5]), (4, [1, 2]), (5, [2, 1, 6]), (7, [2, 1, 6]), (8, [2, 1, 6, 7]), (9, [7]), (6, [6, 1, 2]), (10, [])]) else ([(0, [0, 1]), (1, [2, 1]), (2, [6, 2, 1]), (3, [2, 1]), (4, [2, 1, 6]), (5, [7, 2, 1, 6, 8]), (6, [8]), (7, [6, 1, 2, 7]), (8, [2, 7]), (9, [7, 9, 10]), (10, []), (11, [10]), (12, [1, 7, 2]), (13, [11, 7, 2, 8]), (14, [8]), (15, [2, 7, 11]), (16, [12]), (17, []), (18, [12])])))) else (bif Nat.blt f 96 then (bif Nat.blt f 94 then (bif Nat.blt f 93 then ([(0, [0, 1]), (1, [0, 1]), (2, [7, 1, 0, 8]), (3, [7, 1, 0, 8]), (4, [7, 1, 0, 8, 5]), (5, [5]), (6, [8, 0, 1, 7]), (7, [])]) else ([(0, [0]), (1, [0])])) else (bif Nat.blt f 95 then ([(0, [0]), (1, [0])]) else ([(0, [0]), (1, [0]), (2, [6, 0]), (3, [7, 6, 0]), (4, [4, 6, 0, 3]), (5, [3]), (6, [0])]))) else (bif Nat.blt f 98 then (bif Nat.blt f 97 then ([(0, [0]), (1, [0]), (2, [3]), (3, [3]), (4, [3]), (5, [3]), (6, [3]), (7, [3]), (8, [3]), (9, [3]), (10, [3]), (11, [3]), (12, [3]), (13, [3]), (14, [3]), (15, [3]), (16, [3]), (17, [3]), (18, [3]), (19, [3]), (20, [3]), (21, [3]), (22, [3]), (23, [3]), (24, [3]), (25, [3]), (26, [3]), (27, []), (28, [])]) else ([(0, [0, 1]), (1, [0, 1])])) else (bif Nat.blt f 99 then ([(0, [0, 1]), (1, [2, 1])]) else (bif Nat.blt f 100 then ([(0, [0]), (1, [0, 2]), (2, [4, 2]), (3, [4, 2]), (5, [4, 2]), (7, [4, 2]), (8, [4, 2]), (10, [4, 2]), (12, [4, 2]), (14, [4, 2]), (15, [2]), (13, [2]), (11, [2]), (9, [2]), (6, [2]), (4, [2]), (16, [2])]) else ([(0, [0, 1]), (1, [3, 2]), (2, []), (3, [2]), (4, [68, 2]), (6, [68, 2]), (7, [2]), (5, [2]), (8, [])]))))))) else (bif Nat.blt f 118 then (bif Nat.blt f 109 then (bif Nat.blt f 105 then (bif Nat.blt f 103 then (bif Nat.blt f 102 then ([(0, [0]), (1, [1])]) else ([(0, [1, 0]), (1, [0, 3, 5]), (2, []), (3, [5, 3, 0]), (4, [6, 5, 3, 0, 4]), (5, [3, 0, 4]), (6, [4, 5, 6])])) else (bif Nat.blt f 104 then ([(0, [0]), (1, [1])]) else ([(0, [1, 0]), (1, [0, 3]), (2, [3, 0]), (3, [3, 0]), (4, [21, 0, 19, 20]), (5, [21, 0, 19, 20]), (6, [5, 21, 0, 19, 20]), (7, [21, 0, 19, 20])]))) else (bif Nat.blt f 107 then (bif Nat.blt f 106 then ([(0, [0, 1]), (1, [2, 1]), (2, []), (3, [1, 2]), (4, []), (5, [2, 1]), (6, []), (7, [1]), (8, []), (9, [])]) else ([(0, [0]), (1, [0]), (2, [0, 3]), (3, [0, 3]), (4, [0, 3]), (5, [0, 3]), (6, [0, 3]), (7, [0, 3]), (9, [3, 0]), (10, [3, 0]), (11, [3, 0]), (12, [3, 0]), (13, [3, 0]), (14, [3, 0]), (15, [3, 0]), (16, []), (8, []), (17, [0]), (18, []), (19, [])])) else (bif Nat.blt f 108 then ([(0, [0, 1]), (1, [1, 2]), (2, [1, 2]), (3, [2]), (4, []), (5, [])]) else ([(0, [0]), (1, [0]), (2, [4]), (4, [4]), (6, [4]), (8, [4]), (9, [4]), (11, [4]), (12, []), (10, []), (7, []), (5, []), (3, []), (13, [])])))) else (bif Nat.blt f 113 then (bif Nat.blt f 111 then (bif Nat.blt f 110 then ([(0, [2, 1, 0]), (1, [2, 1, 0]), (2, []), (3, [0, 1]), (4, []), (5, [1, 0]), (6, []), (7, [0, 1]), (8, []), (9, [])]) else ([(0, [0, 1]), (1, [0, 1]), (2, [7, 1, 0, 8]), (3, [7, 1, 0, 8]), (4, [7, 1, 0, 8, 5]), (5, [5]), (6, [8, 0, 1, 7]), (7, [])])) else (bif Nat.blt f 112 then ([(0, [0, 1]), (1, [1, 2]), (2, [1, 2, 5]), (3, [5]), (4, [2, 1]), (5, [17, 16, 1, 18]), (6, [17, 16, 1, 18]), (7, [7, 17, 16, 1, 18]), (8, [17, 16, 1, 18, 8]), (9, [8]), (10, [18, 1, 16, 17]), (11, [])]) else ([(0, [0, 1]), (1, [1, 2]), (2, [1, 2]), (3, [7, 6]), (5, [6]), (6, []), (4, []), (7, [6]), (8, [1, 2]), (9, [8, 1, 2]), (10, [40, 2, 39, 1, 41, 8]), (11, [40, 2, 39, 1, 41, 8]), (12, [10, 40, 2, 39, 1, 41, 8]), (13, [40, 2, 39, 1, 41, 11, 8, 12]), (14, [12]), (15, [8, 11, 41, 1, 39, 2, 40]), (16, [41, 8, 1, 39, 2, 40]), (17, [2, 8]), (18, [2, 8]), (19, []), (20, []), (21, [2, 8]), (22, [8, 13, 14]), (23, [90, 14, 89, 13, 91]), (24, [90, 14, 89, 13, 91]), (25, [16, 90, 14, 89, 13, 91]), (26, []), (27, [91, 13, 89, 14, 90]), (28, [14])]))) else (bif Nat.blt f 115 then (bif Nat.blt f 114 then ([(0, [0]), (1, [0]), (2, []), (3, [0]), (4, [0, 3]), (6, [0, 3]), (7, []), (5, [3, 0]), (8, [])]) else ([(0, [0, 1]), (1, [2, 1]), (2, [2, 5, 1]), (4, [1, 5, 2]), (6, [2, 5, 1]), (8, [1]), (9, []), (7, []), (5, []), (3, []), (10, [])])) else (bif Nat.blt f 116 then ([(0, [1, 0]), (1, [1, 0])]) else (bif Nat.blt f 117 then ([(0, [0]), (1, [0]), (2, [4]), (3, [4]), (4, [4]), (5, [4]), (6, [4]), (7, [4]), (8, [4]), (9, [4]), (10, [4]), (11, [4]), (13, [4]), (14, [4]), (15, [4]), (17, [4]), (18, [4]), (19, [4]), (21, [4]), (23, [4]), (24, [4]), (25, []), (22, []), (20, []), (16, []), (12, []), (26, [])]) else ([(0, [0]), (1, [0]), (3, [0]), (5, [0]), (6, []), (4, []), (2, []), (7, [])])))))) else (bif Nat.blt f 126 then (bif Nat.blt f 122 then (bif Nat.blt f 120 then (bif Nat.blt f 119 then ([(0, [0]), (1, [0]), (2, [0, 3]), (4, [0, 3]), (5, []), (3, [3, 0]), (6, [0])]) else ([])) else ([])) else ([])) else ([]))))

def okL : List Nat := [3, 4, 5, 6, 7, 8, 9, 10, 11, 12, 13, 14, 15, 16, 17, 18, 19, 20, 21, 22, 23, 24, 25, 26, 27, 28, 29, 30, 31, 32, 33, 34, 35, 36, 37, 38, 39, 40, 41, 42, 43, 44, 45, 46, 47, 48, 49, 50, 51, 52, 53, 54, 55, 56, 57, 58, 59, 60, 61, 62, 63, 64, 65, 66, 67, 68, 69, 70, 71, 72, 73, 74, 75, 76, 77, 78, 79, 80, 81, 82, 83, 84, 85, 86, 87, 88, 89, 90, 91, 92, 93, 94, 95, 96, 97, 98, 99, 100, 101, 102, 103, 104, 105, 106, 107, 108, 109, 110, 111, 112, 113, 114, 115, 116, 117, 118]


def findL : Nat → List (Nat × List Nat) → Option (List Nat)
  | _, [] => none
  | r, (s, l) :: rest => bif Nat.beq r s then some l else findL r rest
noncomputable def C : ACtx := { P := Try.prog, esc := escT, own := fun f => [68, 45].contains f, live := fun f r => findL r (liveL f), ext := fun f => bif Nat.beq f 9 then some (closedFn true) else none }
noncomputable def C0 : ACtx := { P := Try.prog, esc := escT, own := fun f => [68, 45].contains f, live := fun f r => findL r (liveL f), ext := fun _ => none }
@[go_sem] theorem C_P : C.P = Try.prog := by rfl
@[go_sem] theorem own_3 : C.own 3 = false := by rfl
@[go_sem] theorem own_4 : C.own 4 = false := by rfl
@[go_sem] theorem own_5 : C.own 5 = false := by rfl
@[go_sem] theorem own_6 : C.own 6 = false := by rfl
@[go_sem] theorem own_7 : C.own 7 = false := by rfl
@[go_sem] theorem own_8 : C.own 8 = false := by rfl
@[go_sem] theorem own_9 : C.own 9 = false := by rfl
@[go_sem] theorem own_10 : C.own 10 = false := by rfl
@[go_sem] theorem own_11 : C.own 11 = false := by rfl
@[go_sem] theorem own_12 : C.own 12 = false := by rfl
@[go_sem] theorem own_13 : C.own 13 = false := by rfl
@[go_sem] theorem own_14 : C.own 14 = false := by rfl
@[go_sem] theorem own_15 : C.own 15 = false := by rfl
@[go_sem] theorem own_16 : C.own 16 = false := by rfl
@[go_sem] theorem own_17 : C.own 17 = false := by rfl
@[go_sem] theorem own_18 : C.own 18 = false := by rfl
@[go_sem] theorem own_19 : C.own 19 = false := by rfl
@[go_sem] theorem own_20 : C.own 20 = false := by rfl
@[go_sem] theorem own_21 : C.own 21 = false := by rfl
@[go_sem] theorem own_22 : C.own 22 = false := by rfl
@[go_sem] theorem own_23 : C.own 23 = false := by rfl
@[go_sem] theorem own_24 : C.own 24 = false := by rfl
@[go_sem] theorem own_25 : C.own 25 = false := by rfl
@[go_sem] theorem own_26 : C.own 26 = false := by rfl
@[go_sem] theorem own_27 : C.own 27 = false := by rfl
@[go_sem] theorem own_28 : C.own 28 = false := by rfl
@[go_sem] theorem own_29 : C.own 29 = false := by rfl
@[go_sem] theorem own_30 : C.own 30 = false := by rfl
@[go_sem] theorem own_31 : C.own 31 = false := by rfl
@[go_sem] theorem own_32 : C.own 32 = false := by rfl
@[go_sem] theorem own_33 : C.own 33 = false := by rfl
@[go_sem] theorem own_34 : C.own 34 = false := by rfl
@[go_sem] theorem own_35 : C.own 35 = false := by rfl
@[go_sem] theorem own_36 : C.own 36 = false := by rfl
@[go_sem] theorem own_37 : C.own 37 = false := by rfl
@[go_sem] theorem own_38 : C.own 38 = false := by rfl
@[go_sem] theorem own_39 : C.own 39 = false := by rfl
@[go_sem] theorem own_40 : C.own 40 = false := by rfl
@[go_sem] theorem own_41 : C.own 41 = false := by rfl
@[go_sem] theorem own_42 : C.own 42 = false := by rfl
@[go_sem] theorem own_43 : C.own 43 = false := by rfl
@[go_sem] theorem own_44 : C.own 44 = false := by rfl
@[go_sem] theorem own_45 : C.own 45 = true := by rfl
@[go_sem] theorem own_46 : C.own 46 = false := by rfl
@[go_sem] theorem own_47 : C.own 47 = false := by rfl
@[go_sem] theorem own_48 : C.own 48 = false := by rfl
@[go_sem] theorem own_49 : C.own 49 = false := by rfl
@[go_sem] theorem own_50 : C.own 50 = false := by rfl
@[go_sem] theorem own_51 : C.own 51 = false := by rfl
@[go_sem] theorem own_52 : C.own 52 = false := by rfl
@[go_sem] theorem own_53 : C.own 53 = false := by rfl
@[go_sem] theorem own_54 : C.own 54 = false := by rfl
@[go_sem] theorem own_55 : C.own 55 = false := by rfl
@[go_sem] theorem own_56 : C.own 56 = false := by rfl
@[go_sem] theorem own_57 : C.own 57 = false := by rfl
@[go_sem] theorem own_58 : C.own 58 = false := by rfl
@[go_sem] theorem own_59 : C.own 59 = false := by rfl
@[go_sem] theorem own_60 : C.own 60 = false := by rfl
@[go_sem] theorem own_61 : C.own 61 = false := by rfl
@[go_sem] theorem own_62 : C.own 62 = false := by rfl
@[go_sem] theorem own_63 : C.own 63 = false := by rfl
@[go_sem] theorem own_64 : C.own 64 = false := by rfl
@[go_sem] theorem own_65 : C.own 65 = false := by rfl
@[go_sem] theorem own_66 : C.own 66 = false := by rfl
@[go_sem] theorem own_67 : C.own 67 = false := by rfl
@[go_sem] theorem own_68 : C.own 68 = true := by rfl
@[go_sem] theorem own_69 : C.own 69 = false := by rfl
@[go_sem] theorem own_70 : C.own 70 = false := by rfl
@[go_sem] theorem own_71 : C.own 71 = false := by rfl
@[go_sem] theorem own_72 : C.own 72 = false := by rfl
@[go_sem] theorem own_73 : C.own 73 = false := by rfl
@[go_sem] theorem own_74 : C.own 74 = false := by rfl
@[go_sem] theorem own_75 : C.own 75 = false := by rfl
@[go_sem] theorem own_76 : C.own 76 = false := by rfl
@[go_sem] theorem own_77 : C.own 77 = false := by rfl
@[go_sem] theorem own_78 : C.own 78 = false := by rfl
@[go_sem] theorem own_79 : C.own 79 = false := by rfl
@[go_sem] theorem own_80 : C.own 80 = false := by rfl
@[go_sem] theorem own_81 : C.own 81 = false := by rfl
@[go_sem] theorem own_82 : C.own 82 = false := by rfl
@[go_sem] theorem own_83 : C.own 83 = false := by rfl
@[go_sem] theorem own_84 : C.own 84 = false := by rfl
@[go_sem] theorem own_85 : C.own 85 = false := by rfl
@[go_sem] theorem own_86 : C.own 86 = false := by rfl
@[go_sem] theorem own_87 : C.own 87 = false := by rfl
@[go_sem] theorem own_88 : C.own 88 = false := by rfl
@[go_sem] theorem own_89 : C.own 89 = false := by rfl
@[go_sem] theorem own_90 : C.own 90 = false := by rfl
@[go_sem] theorem own_91 : C.own 91 = false := by rfl
@[go_sem] theorem own_92 : C.own 92 = false := by rfl
@[go_sem] theorem own_93 : C.own 93 = false := by rfl
@[go_sem] theorem own_94 : C.own 94 = false := by rfl
@[go_sem] theorem own_95 : C.own 95 = false := by rfl
@[go_sem] theorem own_96 : C.own 96 = false := by rfl
@[go_sem] theorem own_97 : C.own 97 = false := by rfl
@[go_sem] theorem own_98 : C.own 98 = false := by rfl
@[go_sem] theorem own_99 : C.own 99 = false := by rfl
@[go_sem] theorem own_100 : C.own 100 = false := by rfl
@[go_sem] theorem own_101 : C.own 101 = false := by rfl
@[go_sem] theorem own_102 : C.own 102 = false := by rfl
@[go_sem] theorem own_103 : C.own 103 = false := by rfl
@[go_sem] theorem own_104 : C.own 104 = false := by rfl
@[go_sem] theorem own_105 : C.own 105 = false := by rfl
@[go_sem] theorem own_106 : C.own 106 = false := by rfl
@[go_sem] theorem own_107 : C.own 107 = false := by rfl
@[go_sem] theorem own_108 : C.own 108 = false := by rfl
@[go_sem] theorem own_109 : C.own 109 = false := by rfl
@[go_sem] theorem own_110 : C.own 110 = false := by rfl
@[go_sem] theorem own_111 : C.own 111 = false := by rfl
@[go_sem] theorem own_112 : C.own 112 = false := by rfl
@[go_sem] theorem own_113 : C.own 113 = false := by rfl
@[go_sem] theorem own_114 : C.own 114 = false := by rfl
@[go_sem] theorem own_115 : C.own 115 = false := by rfl
@[go_sem] theorem own_116 : C.own 116 = false := by rfl
@[go_sem] theorem own_117 : C.own 117 = false := by rfl
@[go_sem] theorem own_118 : C.own 118 = false := by rfl
theorem allOk : okL.all (fnOk Try.prog) = true := by kernel_rfl
theorem okOf : ∀ f, okL.contains f = true → fnOk Try.prog f = true := fun f h => List.all_eq_true.1 allOk f (by simpa using h)
theorem ok (f : FuncId) (h : okL.contains f = true) : fnOk C.P f = true := okOf f h
@[go_sem] theorem esc_3 : C.esc 3 = [] := by kernel_rfl
@[go_sem] theorem live_3_0 : C.live 3 0 = some [0] := by kernel_rfl
@[go_sem] theorem live_3_1 : C.live 3 1 = some [1] := by kernel_rfl
@[go_sem] theorem live_3_2 : C.live 3 2 = some [] := by kernel_rfl
@[go_sem] theorem live_3_3 : C.live 3 3 = some [1] := by kernel_rfl
@[go_sem] theorem esc_4 : C.esc 4 = [] := by kernel_rfl
@[go_sem] theorem live_4_0 : C.live 4 0 = some [0] := by kernel_rfl
@[go_sem] theorem live_4_1 : C.live 4 1 = some [1] := by kernel_rfl
@[go_sem] theorem live_4_2 : C.live 4 2 = some [] := by kernel_rfl
@[go_sem] theorem live_4_3 : C.live 4 3 = some [1] := by kernel_rfl
@[go_sem] theorem live_4_4 : C.live 4 4 = some [3, 1] := by kernel_rfl
@[go_sem] theorem esc_5 : C.esc 5 = [] := by kernel_rfl
@[go_sem] theorem live_5_0 : C.live 5 0 = some [0] := by kernel_rfl
@[go_sem] theorem live_5_1 : C.live 5 1 = some [1] := by kernel_rfl
@[go_sem] theorem live_5_2 : C.live 5 2 = some [] := by kernel_rfl
@[go_sem] theorem live_5_3 : C.live 5 3 = some [1] := by kernel_rfl
@[go_sem] theorem esc_6 : C.esc 6 = [] := by kernel_rfl
@[go_sem] theorem live_6_0 : C.live 6 0 = some [0, 2, 1] := by kernel_rfl
@[go_sem] theorem live_6_1 : C.live 6 1 = some [3, 2, 1] := by kernel_rfl
@[go_sem] theorem live_6_2 : C.live 6 2 = some [] := by kernel_rfl
@[go_sem] theorem live_6_3 : C.live 6 3 = some [1, 2, 3] := by kernel_rfl
@[go_sem] theorem live_6_4 : C.live 6 4 = some [8, 1, 2, 7, 3] := by kernel_rfl
@[go_sem] theorem live_6_5 : C.live 6 5 = some [] := by kernel_rfl
@[go_sem] theorem live_6_6 : C.live 6 6 = some [3, 7, 2, 1] := by kernel_rfl
@[go_sem] theorem live_6_7 : C.live 6 7 = some [3, 7, 9, 2, 10, 1] := by kernel_rfl
@[go_sem] theorem live_6_8 : C.live 6 8 = some [] := by kernel_rfl
@[go_sem] theorem live_6_9 : C.live 6 9 = some [1, 10, 2, 9] := by kernel_rfl
@[go_sem] theorem live_6_10 : C.live 6 10 = some [9, 2, 10, 1, 11] := by kernel_rfl
@[go_sem] theorem live_6_12 : C.live 6 12 = some [9, 2, 10, 1, 11] := by kernel_rfl
@[go_sem] theorem live_6_13 : C.live 6 13 = some [] := by kernel_rfl
@[go_sem] theorem live_6_11 : C.live 6 11 = some [11, 1, 10, 2, 9] := by kernel_rfl
@[go_sem] theorem live_6_14 : C.live 6 14 = some [] := by kernel_rfl
@[go_sem] theorem esc_7 : C.esc 7 = [] := by kernel_rfl
@[go_sem] theorem live_7_0 : C.live 7 0 = some [0] := by kernel_rfl
@[go_sem] theorem live_7_1 : C.live 7 1 = some [1] := by kernel_rfl
@[go_sem] theorem live_7_2 : C.live 7 2 = some [] := by kernel_rfl
@[go_sem] theorem live_7_3 : C.live 7 3 = some [1] := by kernel_rfl
@[go_sem] theorem live_7_4 : C.live 7 4 = some [3, 1] := by kernel_rfl
@[go_sem] theorem live_7_5 : C.live 7 5 = some [4, 3, 1] := by kernel_rfl
@[go_sem] theorem live_7_6 : C.live 7 6 = some [4, 3, 1, 5] := by kernel_rfl
@[go_sem] theorem live_7_7 : C.live 7 7 = some [4, 6, 3, 1, 5] := by kernel_rfl
@[go_sem] theorem live_7_9 : C.live 7 9 = some [4, 6, 3, 1, 5] := by kernel_rfl
@[go_sem] theorem live_7_10 : C.live 7 10 = some [4, 7, 6, 3, 1, 5] := by kernel_rfl
@[go_sem] theorem live_7_11 : C.live 7 11 = some [4, 7, 6, 3, 1, 5] := by kernel_rfl
@[go_sem] theorem live_7_8 : C.live 7 8 = some [6, 4, 3, 1, 5] := by kernel_rfl
@[go_sem] theorem live_7_12 : C.live 7 12 = some [1, 4, 5, 3] := by kernel_rfl
@[go_sem] theorem live_7_13 : C.live 7 13 = some [1, 8, 4, 5, 3] := by kernel_rfl
@[go_sem] theorem live_7_14 : C.live 7 14 = some [3, 5, 4, 8, 1, 9] := by kernel_rfl
@[go_sem] theorem live_7_16 : C.live 7 16 = some [3, 5, 4, 8, 1, 9] := by kernel_rfl
@[go_sem] theorem live_7_17 : C.live 7 17 = some [] := by kernel_rfl
@[go_sem] theorem live_7_15 : C.live 7 15 = some [9, 1, 8, 4, 5, 3] := by kernel_rfl
@[go_sem] theorem live_7_18 : C.live 7 18 = some [8, 5, 3, 1] := by kernel_rfl
@[go_sem] theorem live_7_19 : C.live 7 19 = some [5, 10, 8, 3, 1] := by kernel_rfl
@[go_sem] theorem live_7_21 : C.live 7 21 = some [5, 10, 8, 3, 1] := by kernel_rfl
@[go_sem] theorem live_7_22 : C.live 7 22 = some [5, 11, 10, 8, 3, 1] := by kernel_rfl
@[go_sem] theorem live_7_24 : C.live 7 24 = some [11, 10, 8, 5, 3, 1] := by kernel_rfl
@[go_sem] theorem live_7_23 : C.live 7 23 = some [5, 11, 10, 8, 3, 1] := by kernel_rfl
@[go_sem] theorem live_7_25 : C.live 7 25 = some [5, 11, 10, 8, 3, 1] := by kernel_rfl
@[go_sem] theorem live_7_20 : C.live 7 20 = some [10, 8, 5, 3, 1] := by kernel_rfl
@[go_sem] theorem live_7_26 : C.live 7 26 = some [5, 1] := by kernel_rfl
@[go_sem] theorem esc_8 : C.esc 8 = [] := by kernel_rfl
@[go_sem] theorem live_8_0 : C.live 8 0 = some [0, 1] := by kernel_rfl
@[go_sem] theorem live_8_1 : C.live 8 1 = some [1, 2] := by kernel_rfl
@[go_sem] theorem live_8_2 : C.live 8 2 = some [] := by kernel_rfl
@[go_sem] theorem live_8_3 : C.live 8 3 = some [2, 1] := by kernel_rfl
@[go_sem] theorem live_8_4 : C.live 8 4 = some [1, 2, 5] := by kernel_rfl
@[go_sem] theorem live_8_6 : C.live 8 6 = some [1, 2, 5] := by kernel_rfl
@[go_sem] theorem live_8_7 : C.live 8 7 = some [] := by kernel_rfl
@[go_sem] theorem live_8_5 : C.live 8 5 = some [5, 2, 1] := by kernel_rfl
@[go_sem] theorem live_8_8 : C.live 8 8 = some [2, 1] := by kernel_rfl
@[go_sem] theorem esc_9 : C.esc 9 = [] := by kernel_rfl
@[go_sem] theorem live_9_0 : C.live 9 0 = some [] := by kernel_rfl
@[go_sem] theorem live_9_1 : C.live 9 1 = some [] := by kernel_rfl
@[go_sem] theorem live_9_2 : C.live 9 2 = some [1] := by kernel_rfl
@[go_sem] theorem live_9_3 : C.live 9 3 = some [2, 1] := by kernel_rfl
@[go_sem] theorem live_9_4 : C.live 9 4 = some [1, 3] := by kernel_rfl
@[go_sem] theorem live_9_5 : C.live 9 5 = some [3, 4] := by kernel_rfl
@[go_sem] theorem live_9_6 : C.live 9 6 = some [3, 4, 5] := by kernel_rfl
@[go_sem] theorem esc_10 : C.esc 10 = [] := by kernel_rfl
@[go_sem] theorem live_10_0 : C.live 10 0 = some [0, 1] := by kernel_rfl
@[go_sem] theorem live_10_1 : C.live 10 1 = some [0, 1] := by kernel_rfl
@[go_sem] theorem live_10_2 : C.live 10 2 = some [] := by kernel_rfl
@[go_sem] theorem live_10_3 : C.live 10 3 = some [1, 0] := by kernel_rfl
@[go_sem] theorem live_10_4 : C.live 10 4 = some [0, 1, 5] := by kernel_rfl
@[go_sem] theorem live_10_6 : C.live 10 6 = some [0, 1, 5] := by kernel_rfl
@[go_sem] theorem live_10_7 : C.live 10 7 = some [] := by kernel_rfl
@[go_sem] theorem live_10_5 : C.live 10 5 = some [5, 1, 0] := by kernel_rfl
@[go_sem] theorem live_10_8 : C.live 10 8 = some [] := by kernel_rfl
@[go_sem] theorem esc_11 : C.esc 11 = [] := by kernel_rfl
@[go_sem] theorem live_11_0 : C.live 11 0 = some [0] := by kernel_rfl
@[go_sem] theorem live_11_1 : C.live 11 1 = some [1] := by kernel_rfl
@[go_sem] theorem live_11_2 : C.live 11 2 = some [] := by kernel_rfl
@[go_sem] theorem live_11_3 : C.live 11 3 = some [1] := by kernel_rfl
@[go_sem] theorem live_11_4 : C.live 11 4 = some [1, 3] := by kernel_rfl
@[go_sem] theorem live_11_5 : C.live 11 5 = some [1, 4, 3] := by kernel_rfl
@[go_sem] theorem live_11_6 : C.live 11 6 = some [4, 15, 3, 13, 14] := by kernel_rfl
@[go_sem] theorem live_11_7 : C.live 11 7 = some [4, 15, 3, 13, 14] := by kernel_rfl
@[go_sem] theorem live_11_8 : C.live 11 8 = some [4, 6, 15, 3, 13, 14] := by kernel_rfl
@[go_sem] theorem live_11_9 : C.live 11 9 = some [4, 6, 15, 3, 13, 14] := by kernel_rfl
@[go_sem] theorem live_11_10 : C.live 11 10 = some [15, 4, 3, 13, 14] := by kernel_rfl
@[go_sem] theorem live_11_11 : C.live 11 11 = some [4] := by kernel_rfl
@[go_sem] theorem esc_12 : C.esc 12 = [] := by kernel_rfl
@[go_sem] theorem live_12_0 : C.live 12 0 = some [0] := by kernel_rfl
@[go_sem] theorem live_12_1 : C.live 12 1 = some [1] := by kernel_rfl
@[go_sem] theorem live_12_2 : C.live 12 2 = some [] := by kernel_rfl
@[go_sem] theorem live_12_3 : C.live 12 3 = some [1] := by kernel_rfl
@[go_sem] theorem live_12_4 : C.live 12 4 = some [1, 3] := by kernel_rfl
@[go_sem] theorem live_12_5 : C.live 12 5 = some [4, 3] := by kernel_rfl
@[go_sem] theorem live_12_6 : C.live 12 6 = some [4, 5, 3] := by kernel_rfl
@[go_sem] theorem live_12_7 : C.live 12 7 = some [5, 6, 4, 3] := by kernel_rfl
@[go_sem] theorem live_12_9 : C.live 12 9 = some [5, 6, 4, 3] := by kernel_rfl
@[go_sem] theorem live_12_10 : C.live 12 10 = some [5, 6, 4, 3] := by kernel_rfl
@[go_sem] theorem live_12_8 : C.live 12 8 = some [6, 4, 5, 3] := by kernel_rfl
@[go_sem] theorem live_12_11 : C.live 12 11 = some [5] := by kernel_rfl
@[go_sem] theorem esc_13 : C.esc 13 = [] := by kernel_rfl
@[go_sem] theorem live_13_0 : C.live 13 0 = some [0] := by kernel_rfl
@[go_sem] theorem live_13_1 : C.live 13 1 = some [1] := by kernel_rfl
@[go_sem] theorem live_13_2 : C.live 13 2 = some [1, 3] := by kernel_rfl
@[go_sem] theorem live_13_3 : C.live 13 3 = some [3] := by kernel_rfl
@[go_sem] theorem live_13_4 : C.live 13 4 = some [1] := by kernel_rfl
@[go_sem] theorem live_13_5 : C.live 13 5 = some [1, 4] := by kernel_rfl
@[go_sem] theorem live_13_6 : C.live 13 6 = some [4, 1, 5] := by kernel_rfl
@[go_sem] theorem live_13_8 : C.live 13 8 = some [4, 1, 5] := by kernel_rfl
@[go_sem] theorem live_13_9 : C.live 13 9 = some [] := by kernel_rfl
@[go_sem] theorem live_13_10 : C.live 13 10 = some [5, 1, 4] := by kernel_rfl
@[go_sem] theorem live_13_7 : C.live 13 7 = some [5, 1, 4] := by kernel_rfl
@[go_sem] theorem live_13_11 : C.live 13 11 = some [4, 1] := by kernel_rfl
@[go_sem] theorem live_13_12 : C.live 13 12 = some [6, 4, 1] := by kernel_rfl
@[go_sem] theorem live_13_13 : C.live 13 13 = some [7, 6, 4, 1] := by kernel_rfl
@[go_sem] theorem live_13_15 : C.live 13 15 = some [7, 6, 4, 1] := by kernel_rfl
@[go_sem] theorem live_13_16 : C.live 13 16 = some [1, 4, 6, 7, 8] := by kernel_rfl
@[go_sem] theorem live_13_18 : C.live 13 18 = some [1, 4, 6, 7, 8] := by kernel_rfl
@[go_sem] theorem live_13_19 : C.live 13 19 = some [] := by kernel_rfl
@[go_sem] theorem live_13_17 : C.live 13 17 = some [8, 7, 6, 4, 1] := by kernel_rfl
@[go_sem] theorem live_13_14 : C.live 13 14 = some [7, 6, 4, 1] := by kernel_rfl
@[go_sem] theorem live_13_20 : C.live 13 20 = some [4, 1] := by kernel_rfl
@[go_sem] theorem esc_14 : C.esc 14 = [] := by kernel_rfl
@[go_sem] theorem live_14_0 : C.live 14 0 = some [1, 2, 0] := by kernel_rfl
@[go_sem] theorem live_14_1 : C.live 14 1 = some [1, 2, 0] := by kernel_rfl
@[go_sem] theorem live_14_2 : C.live 14 2 = some [7, 1, 2, 0] := by kernel_rfl
@[go_sem] theorem live_14_4 : C.live 14 4 = some [7, 1, 2, 0] := by kernel_rfl
@[go_sem] theorem live_14_5 : C.live 14 5 = some [7, 1, 2, 0, 8] := by kernel_rfl
@[go_sem] theorem live_14_6 : C.live 14 6 = some [7, 1, 2, 0, 9, 8] := by kernel_rfl
@[go_sem] theorem live_14_7 : C.live 14 7 = some [] := by kernel_rfl
@[go_sem] theorem live_14_8 : C.live 14 8 = some [8, 9, 0, 2, 1, 7] := by kernel_rfl
@[go_sem] theorem live_14_9 : C.live 14 9 = some [] := by kernel_rfl
@[go_sem] theorem live_14_3 : C.live 14 3 = some [7, 1, 2, 0] := by kernel_rfl
@[go_sem] theorem live_14_10 : C.live 14 10 = some [] := by kernel_rfl
@[go_sem] theorem esc_15 : C.esc 15 = [] := by kernel_rfl
@[go_sem] theorem live_15_0 : C.live 15 0 = some [0, 1] := by kernel_rfl
@[go_sem] theorem live_15_1 : C.live 15 1 = some [0, 1] := by kernel_rfl
@[go_sem] theorem live_15_2 : C.live 15 2 = some [1, 0, 5] := by kernel_rfl
@[go_sem] theorem live_15_4 : C.live 15 4 = some [1, 0, 5] := by kernel_rfl
@[go_sem] theorem live_15_5 : C.live 15 5 = some [] := by kernel_rfl
@[go_sem] theorem live_15_3 : C.live 15 3 = some [5, 0, 1] := by kernel_rfl
@[go_sem] theorem live_15_6 : C.live 15 6 = some [] := by kernel_rfl
@[go_sem] theorem esc_16 : C.esc 16 = [] := by kernel_rfl
@[go_sem] theorem live_16_0 : C.live 16 0 = some [0] := by kernel_rfl
@[go_sem] theorem live_16_1 : C.live 16 1 = some [1] := by kernel_rfl
@[go_sem] theorem live_16_2 : C.live 16 2 = some [1, 3] := by kernel_rfl
@[go_sem] theorem live_16_3 : C.live 16 3 = some [3, 4, 1] := by kernel_rfl
@[go_sem] theorem live_16_5 : C.live 16 5 = some [3, 4, 1] := by kernel_rfl
@[go_sem] theorem live_16_4 : C.live 16 4 = some [4, 1, 3] := by kernel_rfl
@[go_sem] theorem live_16_6 : C.live 16 6 = some [1, 3] := by kernel_rfl
@[go_sem] theorem live_16_7 : C.live 16 7 = some [5, 3] := by kernel_rfl
@[go_sem] theorem live_16_8 : C.live 16 8 = some [3, 6, 5] := by kernel_rfl
@[go_sem] theorem live_16_10 : C.live 16 10 = some [3, 6, 5] := by kernel_rfl
@[go_sem] theorem live_16_11 : C.live 16 11 = some [3, 6, 5] := by kernel_rfl
@[go_sem] theorem live_16_9 : C.live 16 9 = some [6, 5, 3] := by kernel_rfl
@[go_sem] theorem live_16_12 : C.live 16 12 = some [3] := by kernel_rfl
@[go_sem] theorem esc_17 : C.esc 17 = [] := by kernel_rfl
@[go_sem] theorem live_17_0 : C.live 17 0 = some [0] := by kernel_rfl
@[go_sem] theorem live_17_1 : C.live 17 1 = some [1] := by kernel_rfl
@[go_sem] theorem live_17_2 : C.live 17 2 = some [3] := by kernel_rfl
@[go_sem] theorem live_17_3 : C.live 17 3 = some [3, 4] := by kernel_rfl
@[go_sem] theorem live_17_5 : C.live 17 5 = some [3, 4] := by kernel_rfl
@[go_sem] theorem live_17_6 : C.live 17 6 = some [] := by kernel_rfl
@[go_sem] theorem live_17_4 : C.live 17 4 = some [4, 3] := by kernel_rfl
@[go_sem] theorem live_17_7 : C.live 17 7 = some [] := by kernel_rfl
@[go_sem] theorem esc_18 : C.esc 18 = [] := by kernel_rfl
@[go_sem] theorem live_18_0 : C.live 18 0 = some [0] := by kernel_rfl
@[go_sem] theorem live_18_1 : C.live 18 1 = some [1] := by kernel_rfl
@[go_sem] theorem esc_19 : C.esc 19 = [] := by kernel_rfl
@[go_sem] theorem live_19_0 : C.live 19 0 = some [0] := by kernel_rfl
@[go_sem] theorem live_19_1 : C.live 19 1 = some [1] := by kernel_rfl
@[go_sem] theorem esc_20 : C.esc 20 = [] := by kernel_rfl
@[go_sem] theorem live_20_0 : C.live 20 0 = some [0] := by kernel_rfl
@[go_sem] theorem live_20_1 : C.live 20 1 = some [1] := by kernel_rfl
@[go_sem] theorem esc_21 : C.esc 21 = [] := by kernel_rfl
@[go_sem] theorem live_21_0 : C.live 21 0 = some [0, 1, 2] := by kernel_rfl
@[go_sem] theorem live_21_1 : C.live 21 1 = some [1, 3, 2, 6] := by kernel_rfl
@[go_sem] theorem live_21_2 : C.live 21 2 = some [6] := by kernel_rfl
@[go_sem] theorem live_21_3 : C.live 21 3 = some [2, 3, 1, 6] := by kernel_rfl
@[go_sem] theorem live_21_4 : C.live 21 4 = some [6] := by kernel_rfl
@[go_sem] theorem live_21_5 : C.live 21 5 = some [1, 3, 2, 6] := by kernel_rfl
@[go_sem] theorem live_21_6 : C.live 21 6 = some [1, 8, 3, 2, 6] := by kernel_rfl
@[go_sem] theorem live_21_7 : C.live 21 7 = some [1, 8, 9, 3, 2, 6] := by kernel_rfl
@[go_sem] theorem live_21_8 : C.live 21 8 = some [9, 10, 1, 8, 3, 2, 6] := by kernel_rfl
@[go_sem] theorem live_21_10 : C.live 21 10 = some [9, 10, 1, 8, 3, 2, 6] := by kernel_rfl
@[go_sem] theorem live_21_9 : C.live 21 9 = some [10, 1, 8, 9, 3, 2, 6] := by kernel_rfl
@[go_sem] theorem live_21_11 : C.live 21 11 = some [9, 3, 2, 1, 6] := by kernel_rfl
@[go_sem] theorem live_21_12 : C.live 21 12 = some [6] := by kernel_rfl
@[go_sem] theorem live_21_13 : C.live 21 13 = some [1, 2, 3, 6] := by kernel_rfl
@[go_sem] theorem live_21_14 : C.live 21 14 = some [6] := by kernel_rfl
@[go_sem] theorem live_21_15 : C.live 21 15 = some [3, 2, 1, 6] := by kernel_rfl
@[go_sem] theorem live_21_16 : C.live 21 16 = some [11, 3, 2, 1, 6] := by kernel_rfl
@[go_sem] theorem live_21_17 : C.live 21 17 = some [12, 11, 3, 2, 1, 6] := by kernel_rfl
@[go_sem] theorem live_21_19 : C.live 21 19 = some [12, 11, 3, 2, 1, 6] := by kernel_rfl
@[go_sem] theorem live_21_18 : C.live 21 18 = some [12, 11, 3, 2, 1, 6] := by kernel_rfl
@[go_sem] theorem live_21_20 : C.live 21 20 = some [11, 6] := by kernel_rfl
@[go_sem] theorem esc_22 : C.esc 22 = [] := by kernel_rfl
@[go_sem] theorem live_22_0 : C.live 22 0 = some [0] := by kernel_rfl
@[go_sem] theorem live_22_1 : C.live 22 1 = some [1] := by kernel_rfl
@[go_sem] theorem esc_23 : C.esc 23 = [] := by kernel_rfl
@[go_sem] theorem live_23_0 : C.live 23 0 = some [1, 0] := by kernel_rfl
@[go_sem] theorem live_23_1 : C.live 23 1 = some [1, 0] := by kernel_rfl
@[go_sem] theorem live_23_2 : C.live 23 2 = some [0, 1, 5] := by kernel_rfl
@[go_sem] theorem live_23_4 : C.live 23 4 = some [0, 1, 5] := by kernel_rfl
@[go_sem] theorem live_23_5 : C.live 23 5 = some [] := by kernel_rfl
@[go_sem] theorem live_23_3 : C.live 23 3 = some [5, 1, 0] := by kernel_rfl
@[go_sem] theorem live_23_6 : C.live 23 6 = some [] := by kernel_rfl
@[go_sem] theorem esc_24 : C.esc 24 = [] := by kernel_rfl
@[go_sem] theorem live_24_0 : C.live 24 0 = some [0] := by kernel_rfl
@[go_sem] theorem live_24_1 : C.live 24 1 = some [0] := by kernel_rfl
@[go_sem] theorem esc_25 : C.esc 25 = [] := by kernel_rfl
@[go_sem] theorem live_25_0 : C.live 25 0 = some [1, 0] := by kernel_rfl
@[go_sem] theorem live_25_1 : C.live 25 1 = some [1, 0] := by kernel_rfl
@[go_sem] theorem live_25_2 : C.live 25 2 = some [1, 0, 5] := by kernel_rfl
@[go_sem] theorem live_25_3 : C.live 25 3 = some [5, 6, 1, 0] := by kernel_rfl
@[go_sem] theorem live_25_5 : C.live 25 5 = some [5, 6, 1, 0] := by kernel_rfl
@[go_sem] theorem live_25_6 : C.live 25 6 = some [5, 6, 1, 0] := by kernel_rfl
@[go_sem] theorem live_25_7 : C.live 25 7 = some [5, 6, 1, 0] := by kernel_rfl
@[go_sem] theorem live_25_8 : C.live 25 8 = some [5, 6, 1, 0] := by kernel_rfl
@[go_sem] theorem live_25_9 : C.live 25 9 = some [5, 6, 1, 0] := by kernel_rfl
@[go_sem] theorem live_25_4 : C.live 25 4 = some [6, 1, 0, 5] := by kernel_rfl
@[go_sem] theorem live_25_10 : C.live 25 10 = some [5] := by kernel_rfl
@[go_sem] theorem esc_26 : C.esc 26 = [] := by kernel_rfl
@[go_sem] theorem live_26_0 : C.live 26 0 = some [0] := by kernel_rfl
@[go_sem] theorem live_26_1 : C.live 26 1 = some [0, 2] := by kernel_rfl
@[go_sem] theorem esc_27 : C.esc 27 = [] := by kernel_rfl
@[go_sem] theorem live_27_0 : C.live 27 0 = some [1, 0] := by kernel_rfl
@[go_sem] theorem live_27_1 : C.live 27 1 = some [0, 3, 4] := by kernel_rfl
@[go_sem] theorem esc_28 : C.esc 28 = [] := by kernel_rfl
@[go_sem] theorem live_28_0 : C.live 28 0 = some [0] := by kernel_rfl
@[go_sem] theorem live_28_1 : C.live 28 1 = some [0, 2] := by kernel_rfl
@[go_sem] theorem esc_29 : C.esc 29 = [] := by kernel_rfl
@[go_sem] theorem live_29_0 : C.live 29 0 = some [0] := by kernel_rfl
@[go_sem] theorem live_29_1 : C.live 29 1 = some [1] := by kernel_rfl
@[go_sem] theorem live_29_2 : C.live 29 2 = some [4] := by kernel_rfl
@[go_sem] theorem esc_30 : C.esc 30 = [10] := by kernel_rfl
@[go_sem] theorem live_30_0 : C.live 30 0 = some [0] := by kernel_rfl
@[go_sem] theorem live_30_1 : C.live 30 1 = some [1] := by kernel_rfl
@[go_sem] theorem live_30_2 : C.live 30 2 = some [3, 1] := by kernel_rfl
@[go_sem] theorem live_30_3 : C.live 30 3 = some [14, 3, 12, 1, 13] := by kernel_rfl
@[go_sem] theorem live_30_4 : C.live 30 4 = some [14, 3, 12, 1, 13] := by kernel_rfl
@[go_sem] theorem live_30_5 : C.live 30 5 = some [5, 14, 3, 12, 1, 13] := by kernel_rfl
@[go_sem] theorem live_30_6 : C.live 30 6 = some [14, 3, 12, 1, 13] := by kernel_rfl
@[go_sem] theorem live_30_7 : C.live 30 7 = some [1, 3] := by kernel_rfl
@[go_sem] theorem live_30_8 : C.live 30 8 = some [6, 1, 3] := by kernel_rfl
@[go_sem] theorem live_30_9 : C.live 30 9 = some [1, 3] := by kernel_rfl
@[go_sem] theorem live_30_10 : C.live 30 10 = some [1, 3, 6] := by kernel_rfl
@[go_sem] theorem live_30_11 : C.live 30 11 = some [3] := by kernel_rfl
@[go_sem] theorem esc_31 : C.esc 31 = [3] := by kernel_rfl
@[go_sem] theorem live_31_0 : C.live 31 0 = some [0] := by kernel_rfl
@[go_sem] theorem live_31_1 : C.live 31 1 = some [1] := by kernel_rfl
@[go_sem] theorem live_31_2 : C.live 31 2 = some [3, 1] := by kernel_rfl
@[go_sem] theorem live_31_3 : C.live 31 3 = some [9, 3, 7, 1, 8] := by kernel_rfl
@[go_sem] theorem live_31_4 : C.live 31 4 = some [9, 3, 7, 1, 8] := by kernel_rfl
@[go_sem] theorem live_31_5 : C.live 31 5 = some [5, 9, 3, 7, 1, 8] := by kernel_rfl
@[go_sem] theorem live_31_6 : C.live 31 6 = some [9, 3, 7, 1, 8] := by kernel_rfl
@[go_sem] theorem live_31_7 : C.live 31 7 = some [1, 3] := by kernel_rfl
@[go_sem] theorem live_31_8 : C.live 31 8 = some [3] := by kernel_rfl
@[go_sem] theorem esc_32 : C.esc 32 = [] := by kernel_rfl
@[go_sem] theorem live_32_0 : C.live 32 0 = some [0] := by kernel_rfl
@[go_sem] theorem live_32_1 : C.live 32 1 = some [1] := by kernel_rfl
@[go_sem] theorem live_32_2 : C.live 32 2 = some [3, 1] := by kernel_rfl
@[go_sem] theorem live_32_3 : C.live 32 3 = some [4, 3, 1] := by kernel_rfl
@[go_sem] theorem live_32_4 : C.live 32 4 = some [3, 1] := by kernel_rfl
@[go_sem] theorem live_32_5 : C.live 32 5 = some [3, 1, 4] := by kernel_rfl
@[go_sem] theorem live_32_6 : C.live 32 6 = some [3] := by kernel_rfl
@[go_sem] theorem esc_33 : C.esc 33 = [] := by kernel_rfl
@[go_sem] theorem live_33_0 : C.live 33 0 = some [1, 0] := by kernel_rfl
@[go_sem] theorem live_33_1 : C.live 33 1 = some [1, 0] := by kernel_rfl
@[go_sem] theorem live_33_2 : C.live 33 2 = some [0, 1, 5] := by kernel_rfl
@[go_sem] theorem live_33_4 : C.live 33 4 = some [0, 1, 5] := by kernel_rfl
@[go_sem] theorem live_33_5 : C.live 33 5 = some [] := by kernel_rfl
@[go_sem] theorem live_33_3 : C.live 33 3 = some [5, 1, 0] := by kernel_rfl
@[go_sem] theorem live_33_6 : C.live 33 6 = some [] := by kernel_rfl
@[go_sem] theorem esc_34 : C.esc 34 = [] := by kernel_rfl
@[go_sem] theorem live_34_0 : C.live 34 0 = some [0] := by kernel_rfl
@[go_sem] theorem live_34_1 : C.live 34 1 = some [1] := by kernel_rfl
@[go_sem] theorem live_34_2 : C.live 34 2 = some [] := by kernel_rfl
@[go_sem] theorem live_34_3 : C.live 34 3 = some [1] := by kernel_rfl
@[go_sem] theorem live_34_4 : C.live 34 4 = some [1, 3] := by kernel_rfl
@[go_sem] theorem live_34_5 : C.live 34 5 = some [3] := by kernel_rfl
@[go_sem] theorem live_34_6 : C.live 34 6 = some [1] := by kernel_rfl
@[go_sem] theorem live_34_7 : C.live 34 7 = some [4] := by kernel_rfl
@[go_sem] theorem live_34_8 : C.live 34 8 = some [4, 5] := by kernel_rfl
@[go_sem] theorem live_34_10 : C.live 34 10 = some [4, 5] := by kernel_rfl
@[go_sem] theorem live_34_11 : C.live 34 11 = some [4, 5] := by kernel_rfl
@[go_sem] theorem live_34_12 : C.live 34 12 = some [4, 5, 6] := by kernel_rfl
@[go_sem] theorem live_34_13 : C.live 34 13 = some [6] := by kernel_rfl
@[go_sem] theorem live_34_9 : C.live 34 9 = some [5, 4] := by kernel_rfl
@[go_sem] theorem live_34_14 : C.live 34 14 = some [4] := by kernel_rfl
@[go_sem] theorem live_34_15 : C.live 34 15 = some [] := by kernel_rfl
@[go_sem] theorem live_34_16 : C.live 34 16 = some [] := by kernel_rfl
@[go_sem] theorem esc_35 : C.esc 35 = [] := by kernel_rfl
@[go_sem] theorem live_35_0 : C.live 35 0 = some [0, 2, 3, 1] := by kernel_rfl
@[go_sem] theorem live_35_1 : C.live 35 1 = some [2, 4, 3, 1, 8] := by kernel_rfl
@[go_sem] theorem live_35_2 : C.live 35 2 = some [2, 4, 3, 1, 9, 8] := by kernel_rfl
@[go_sem] theorem live_35_3 : C.live 35 3 = some [2, 4, 3, 1, 9, 8] := by kernel_rfl
@[go_sem] theorem live_35_4 : C.live 35 4 = some [4, 3, 1, 9, 8] := by kernel_rfl
@[go_sem] theorem live_35_5 : C.live 35 5 = some [3, 1, 9, 8] := by kernel_rfl
@[go_sem] theorem live_35_6 : C.live 35 6 = some [1, 9, 8] := by kernel_rfl
@[go_sem] theorem live_35_7 : C.live 35 7 = some [9, 8] := by kernel_rfl
@[go_sem] theorem esc_36 : C.esc 36 = [] := by kernel_rfl
@[go_sem] theorem live_36_0 : C.live 36 0 = some [0, 1] := by kernel_rfl
@[go_sem] theorem live_36_1 : C.live 36 1 = some [2, 1] := by kernel_rfl
@[go_sem] theorem live_36_2 : C.live 36 2 = some [1, 2, 5] := by kernel_rfl
@[go_sem] theorem live_36_4 : C.live 36 4 = some [1, 2, 5] := by kernel_rfl
@[go_sem] theorem live_36_5 : C.live 36 5 = some [1, 2, 5, 6] := by kernel_rfl
@[go_sem] theorem live_36_6 : C.live 36 6 = some [9, 8, 1, 2, 5, 7, 6] := by kernel_rfl
@[go_sem] theorem live_36_7 : C.live 36 7 = some [8, 1, 2, 5, 7, 6] := by kernel_rfl
@[go_sem] theorem live_36_8 : C.live 36 8 = some [8, 9, 1, 2, 5, 7, 6] := by kernel_rfl
@[go_sem] theorem live_36_9 : C.live 36 9 = some [1, 2, 5, 7, 6] := by kernel_rfl
@[go_sem] theorem live_36_10 : C.live 36 10 = some [9, 1, 2, 5, 7, 6] := by kernel_rfl
@[go_sem] theorem live_36_11 : C.live 36 11 = some [1, 2, 5, 7, 6] := by kernel_rfl
@[go_sem] theorem live_36_12 : C.live 36 12 = some [9, 1, 2, 5, 7, 6] := by kernel_rfl
@[go_sem] theorem live_36_13 : C.live 36 13 = some [1, 2, 5, 7, 6] := by kernel_rfl
@[go_sem] theorem live_36_14 : C.live 36 14 = some [9, 1, 2, 5, 7, 6] := by kernel_rfl
@[go_sem] theorem live_36_15 : C.live 36 15 = some [1, 2, 5, 7, 6] := by kernel_rfl
@[go_sem] theorem live_36_16 : C.live 36 16 = some [1, 2, 5, 7, 6, 9] := by kernel_rfl
@[go_sem] theorem live_36_17 : C.live 36 17 = some [9] := by kernel_rfl
@[go_sem] theorem live_36_18 : C.live 36 18 = some [6, 7, 5, 2, 1] := by kernel_rfl
@[go_sem] theorem live_36_19 : C.live 36 19 = some [6, 7, 5, 2, 1] := by kernel_rfl
@[go_sem] theorem live_36_3 : C.live 36 3 = some [5, 2, 1] := by kernel_rfl
@[go_sem] theorem live_36_20 : C.live 36 20 = some [] := by kernel_rfl
@[go_sem] theorem esc_37 : C.esc 37 = [] := by kernel_rfl
@[go_sem] theorem live_37_0 : C.live 37 0 = some [0, 1] := by kernel_rfl
@[go_sem] theorem live_37_1 : C.live 37 1 = some [2, 1] := by kernel_rfl
@[go_sem] theorem live_37_2 : C.live 37 2 = some [] := by kernel_rfl
@[go_sem] theorem live_37_3 : C.live 37 3 = some [1, 2] := by kernel_rfl
@[go_sem] theorem live_37_4 : C.live 37 4 = some [2, 1, 5] := by kernel_rfl
@[go_sem] theorem live_37_6 : C.live 37 6 = some [2, 1, 5] := by kernel_rfl
@[go_sem] theorem live_37_7 : C.live 37 7 = some [] := by kernel_rfl
@[go_sem] theorem live_37_5 : C.live 37 5 = some [5, 1, 2] := by kernel_rfl
@[go_sem] theorem live_37_8 : C.live 37 8 = some [] := by kernel_rfl
@[go_sem] theorem esc_38 : C.esc 38 = [] := by kernel_rfl
@[go_sem] theorem live_38_0 : C.live 38 0 = some [0] := by kernel_rfl
@[go_sem] theorem live_38_1 : C.live 38 1 = some [1] := by kernel_rfl
@[go_sem] theorem live_38_2 : C.live 38 2 = some [3] := by kernel_rfl
@[go_sem] theorem live_38_3 : C.live 38 3 = some [3, 4] := by kernel_rfl
@[go_sem] theorem live_38_4 : C.live 38 4 = some [4, 5, 3] := by kernel_rfl
@[go_sem] theorem live_38_6 : C.live 38 6 = some [4, 5, 3] := by kernel_rfl
@[go_sem] theorem live_38_7 : C.live 38 7 = some [4, 5, 3] := by kernel_rfl
@[go_sem] theorem live_38_5 : C.live 38 5 = some [5, 3, 4] := by kernel_rfl
@[go_sem] theorem live_38_8 : C.live 38 8 = some [4] := by kernel_rfl
@[go_sem] theorem esc_39 : C.esc 39 = [2] := by kernel_rfl
@[go_sem] theorem live_39_0 : C.live 39 0 = some [0, 1] := by kernel_rfl
@[go_sem] theorem live_39_1 : C.live 39 1 = some [1, 2] := by kernel_rfl
@[go_sem] theorem esc_40 : C.esc 40 = [2] := by kernel_rfl
@[go_sem] theorem live_40_0 : C.live 40 0 = some [0, 1] := by kernel_rfl
@[go_sem] theorem live_40_1 : C.live 40 1 = some [1, 2] := by kernel_rfl
@[go_sem] theorem esc_41 : C.esc 41 = [] := by kernel_rfl
@[go_sem] theorem live_41_0 : C.live 41 0 = some [0] := by kernel_rfl
@[go_sem] theorem live_41_1 : C.live 41 1 = some [0] := by kernel_rfl
@[go_sem] theorem esc_42 : C.esc 42 = [] := by kernel_rfl
@[go_sem] theorem live_42_0 : C.live 42 0 = some [0, 1] := by kernel_rfl
@[go_sem] theorem live_42_1 : C.live 42 1 = some [1, 2] := by kernel_rfl
@[go_sem] theorem live_42_2 : C.live 42 2 = some [2, 1, 5] := by kernel_rfl
@[go_sem] theorem live_42_4 : C.live 42 4 = some [2, 1, 5] := by kernel_rfl
@[go_sem] theorem live_42_5 : C.live 42 5 = some [] := by kernel_rfl
@[go_sem] theorem live_42_3 : C.live 42 3 = some [5, 1, 2] := by kernel_rfl
@[go_sem] theorem live_42_6 : C.live 42 6 = some [2, 1] := by kernel_rfl
@[go_sem] theorem live_42_7 : C.live 42 7 = some [1, 6] := by kernel_rfl
@[go_sem] theorem live_42_8 : C.live 42 8 = some [6, 1, 7] := by kernel_rfl
@[go_sem] theorem live_42_10 : C.live 42 10 = some [6, 1, 7] := by kernel_rfl
@[go_sem] theorem live_42_11 : C.live 42 11 = some [] := by kernel_rfl
@[go_sem] theorem live_42_9 : C.live 42 9 = some [7, 1, 6] := by kernel_rfl
@[go_sem] theorem live_42_12 : C.live 42 12 = some [] := by kernel_rfl
@[go_sem] theorem esc_43 : C.esc 43 = [] := by kernel_rfl
@[go_sem] theorem live_43_0 : C.live 43 0 = some [2, 1, 0] := by kernel_rfl
@[go_sem] theorem live_43_1 : C.live 43 1 = some [2, 1, 0] := by kernel_rfl
@[go_sem] theorem live_43_2 : C.live 43 2 = some [7, 2, 1, 0] := by kernel_rfl
@[go_sem] theorem live_43_3 : C.live 43 3 = some [7, 8, 2, 1, 0] := by kernel_rfl
@[go_sem] theorem live_43_5 : C.live 43 5 = some [7, 8, 2, 1, 0] := by kernel_rfl
@[go_sem] theorem live_43_6 : C.live 43 6 = some [7, 9, 8, 2, 1, 0] := by kernel_rfl
@[go_sem] theorem live_43_7 : C.live 43 7 = some [7, 9, 8, 2, 1, 0] := by kernel_rfl
@[go_sem] theorem live_43_8 : C.live 43 8 = some [7, 9, 8, 2, 1, 0] := by kernel_rfl
@[go_sem] theorem live_43_9 : C.live 43 9 = some [7, 9, 8, 2, 1, 0] := by kernel_rfl
@[go_sem] theorem live_43_10 : C.live 43 10 = some [7, 9, 8, 2, 1, 0] := by kernel_rfl
@[go_sem] theorem live_43_11 : C.live 43 11 = some [7, 9, 8, 2, 1, 0] := by kernel_rfl
@[go_sem] theorem live_43_4 : C.live 43 4 = some [8, 7, 2, 1, 0] := by kernel_rfl
@[go_sem] theorem live_43_12 : C.live 43 12 = some [7] := by kernel_rfl
@[go_sem] theorem esc_44 : C.esc 44 = [] := by kernel_rfl
@[go_sem] theorem live_44_0 : C.live 44 0 = some [1, 0, 2] := by kernel_rfl
@[go_sem] theorem live_44_1 : C.live 44 1 = some [1, 0, 2] := by kernel_rfl
@[go_sem] theorem live_44_2 : C.live 44 2 = some [2] := by kernel_rfl
@[go_sem] theorem live_44_3 : C.live 44 3 = some [0] := by kernel_rfl
@[go_sem] theorem esc_45 : C.esc 45 = [] := by kernel_rfl
@[go_sem] theorem live_45_0 : C.live 45 0 = some [2, 1, 0] := by kernel_rfl
@[go_sem] theorem live_45_1 : C.live 45 1 = some [2, 1, 0] := by kernel_rfl
@[go_sem] theorem live_45_2 : C.live 45 2 = some [0, 7, 2, 1] := by kernel_rfl
@[go_sem] theorem live_45_4 : C.live 45 4 = some [0, 7, 2, 1] := by kernel_rfl
@[go_sem] theorem live_45_5 : C.live 45 5 = some [0, 7, 2, 1] := by kernel_rfl
@[go_sem] theorem live_45_6 : C.live 45 6 = some [0, 7, 2, 1] := by kernel_rfl
@[go_sem] theorem live_45_7 : C.live 45 7 = some [0, 7, 2, 1] := by kernel_rfl
@[go_sem] theorem live_45_8 : C.live 45 8 = some [0, 7, 2, 1] := by kernel_rfl
@[go_sem] theorem live_45_9 : C.live 45 9 = some [0, 7, 2, 1] := by kernel_rfl
@[go_sem] theorem live_45_10 : C.live 45 10 = some [0, 7, 2, 1] := by kernel_rfl
@[go_sem] theorem live_45_3 : C.live 45 3 = some [7, 2, 1, 0] := by kernel_rfl
@[go_sem] theorem live_45_11 : C.live 45 11 = some [0] := by kernel_rfl
@[go_sem] theorem esc_46 : C.esc 46 = [] := by kernel_rfl
@[go_sem] theorem live_46_0 : C.live 46 0 = some [0, 1] := by kernel_rfl
@[go_sem] theorem live_46_1 : C.live 46 1 = some [1, 2] := by kernel_rfl
@[go_sem] theorem live_46_2 : C.live 46 2 = some [5, 1, 2] := by kernel_rfl
@[go_sem] theorem live_46_3 : C.live 46 3 = some [5, 6, 1, 2] := by kernel_rfl
@[go_sem] theorem live_46_5 : C.live 46 5 = some [5, 6, 1, 2] := by kernel_rfl
@[go_sem] theorem live_46_4 : C.live 46 4 = some [6, 5, 1, 2] := by kernel_rfl
@[go_sem] theorem live_46_6 : C.live 46 6 = some [5] := by kernel_rfl
@[go_sem] theorem esc_47 : C.esc 47 = [21] := by kernel_rfl
@[go_sem] theorem live_47_0 : C.live 47 0 = some [0] := by kernel_rfl
@[go_sem] theorem live_47_1 : C.live 47 1 = some [1] := by kernel_rfl
@[go_sem] theorem live_47_2 : C.live 47 2 = some [1, 4] := by kernel_rfl
@[go_sem] theorem live_47_3 : C.live 47 3 = some [4] := by kernel_rfl
@[go_sem] theorem live_47_4 : C.live 47 4 = some [1] := by kernel_rfl
@[go_sem] theorem live_47_5 : C.live 47 5 = some [5, 1] := by kernel_rfl
@[go_sem] theorem live_47_6 : C.live 47 6 = some [24, 1, 23, 5, 25] := by kernel_rfl
@[go_sem] theorem live_47_7 : C.live 47 7 = some [24, 1, 23, 5, 25] := by kernel_rfl
@[go_sem] theorem live_47_8 : C.live 47 8 = some [24, 1, 23, 5, 25, 7] := by kernel_rfl
@[go_sem] theorem live_47_9 : C.live 47 9 = some [] := by kernel_rfl
@[go_sem] theorem live_47_10 : C.live 47 10 = some [7, 25, 5, 23, 1, 24] := by kernel_rfl
@[go_sem] theorem live_47_11 : C.live 47 11 = some [25, 5, 23, 1, 24] := by kernel_rfl
@[go_sem] theorem live_47_12 : C.live 47 12 = some [1, 5] := by kernel_rfl
@[go_sem] theorem live_47_13 : C.live 47 13 = some [8, 1, 5] := by kernel_rfl
@[go_sem] theorem live_47_14 : C.live 47 14 = some [42, 5, 1, 41, 8, 43] := by kernel_rfl
@[go_sem] theorem live_47_15 : C.live 47 15 = some [42, 5, 1, 41, 8, 43] := by kernel_rfl
@[go_sem] theorem live_47_16 : C.live 47 16 = some [42, 5, 1, 41, 8, 43, 10] := by kernel_rfl
@[go_sem] theorem live_47_17 : C.live 47 17 = some [] := by kernel_rfl
@[go_sem] theorem live_47_18 : C.live 47 18 = some [10, 43, 8, 41, 1, 5, 42] := by kernel_rfl
@[go_sem] theorem live_47_19 : C.live 47 19 = some [43, 8, 41, 1, 5, 42] := by kernel_rfl
@[go_sem] theorem live_47_20 : C.live 47 20 = some [1, 5] := by kernel_rfl
@[go_sem] theorem live_47_21 : C.live 47 21 = some [5, 11] := by kernel_rfl
@[go_sem] theorem esc_48 : C.esc 48 = [] := by kernel_rfl
@[go_sem] theorem live_48_0 : C.live 48 0 = some [1, 2, 0] := by kernel_rfl
@[go_sem] theorem live_48_1 : C.live 48 1 = some [12, 2, 0, 10, 11] := by kernel_rfl
@[go_sem] theorem live_48_2 : C.live 48 2 = some [12, 2, 0, 10, 11] := by kernel_rfl
@[go_sem] theorem live_48_3 : C.live 48 3 = some [7, 12, 2, 0, 10, 11] := by kernel_rfl
@[go_sem] theorem live_48_4 : C.live 48 4 = some [7, 8, 12, 2, 0, 10, 11] := by kernel_rfl
@[go_sem] theorem live_48_5 : C.live 48 5 = some [7, 8, 12, 2, 0, 10, 11] := by kernel_rfl
@[go_sem] theorem live_48_6 : C.live 48 6 = some [7, 8, 12, 2, 0, 10, 11] := by kernel_rfl
@[go_sem] theorem live_48_7 : C.live 48 7 = some [7, 9, 8, 12, 2, 0, 10, 11] := by kernel_rfl
@[go_sem] theorem live_48_8 : C.live 48 8 = some [7, 9, 8, 12, 2, 0, 10, 11] := by kernel_rfl
@[go_sem] theorem live_48_9 : C.live 48 9 = some [12, 2, 0, 10, 11] := by kernel_rfl
@[go_sem] theorem esc_49 : C.esc 49 = [11] := by kernel_rfl
@[go_sem] theorem live_49_0 : C.live 49 0 = some [0, 1, 2] := by kernel_rfl
@[go_sem] theorem live_49_1 : C.live 49 1 = some [1, 2, 3] := by kernel_rfl
@[go_sem] theorem live_49_2 : C.live 49 2 = some [3, 7] := by kernel_rfl
@[go_sem] theorem live_49_3 : C.live 49 3 = some [7] := by kernel_rfl
@[go_sem] theorem esc_50 : C.esc 50 = [] := by kernel_rfl
@[go_sem] theorem live_50_0 : C.live 50 0 = some [0, 2] := by kernel_rfl
@[go_sem] theorem live_50_1 : C.live 50 1 = some [3, 2] := by kernel_rfl
@[go_sem] theorem live_50_2 : C.live 50 2 = some [3, 2] := by kernel_rfl
@[go_sem] theorem esc_51 : C.esc 51 = [] := by kernel_rfl
@[go_sem] theorem live_51_0 : C.live 51 0 = some [0] := by kernel_rfl
@[go_sem] theorem esc_52 : C.esc 52 = [] := by kernel_rfl
@[go_sem] theorem live_52_0 : C.live 52 0 = some [1, 2, 0] := by kernel_rfl
@[go_sem] theorem live_52_1 : C.live 52 1 = some [1, 2, 0] := by kernel_rfl
@[go_sem] theorem live_52_2 : C.live 52 2 = some [1, 7, 2, 0] := by kernel_rfl
@[go_sem] theorem live_52_4 : C.live 52 4 = some [1, 7, 2, 0] := by kernel_rfl
@[go_sem] theorem live_52_5 : C.live 52 5 = some [1, 8, 7, 2, 0] := by kernel_rfl
@[go_sem] theorem live_52_6 : C.live 52 6 = some [9, 1, 8, 7, 2, 0] := by kernel_rfl
@[go_sem] theorem live_52_7 : C.live 52 7 = some [9, 1, 8, 7, 2, 0] := by kernel_rfl
@[go_sem] theorem live_52_8 : C.live 52 8 = some [1, 8, 9, 7, 2, 0] := by kernel_rfl
@[go_sem] theorem live_52_9 : C.live 52 9 = some [1, 8, 9, 7, 2, 0] := by kernel_rfl
@[go_sem] theorem live_52_10 : C.live 52 10 = some [10, 1, 8, 9, 7, 2, 0] := by kernel_rfl
@[go_sem] theorem live_52_11 : C.live 52 11 = some [10, 8, 9, 7, 2, 0] := by kernel_rfl
@[go_sem] theorem live_52_12 : C.live 52 12 = some [10, 8, 9, 7, 2, 0] := by kernel_rfl
@[go_sem] theorem live_52_13 : C.live 52 13 = some [1, 8, 9, 7, 2, 0] := by kernel_rfl
@[go_sem] theorem live_52_14 : C.live 52 14 = some [8, 1, 9, 7, 2, 0] := by kernel_rfl
@[go_sem] theorem live_52_3 : C.live 52 3 = some [7, 1, 2, 0] := by kernel_rfl
@[go_sem] theorem live_52_15 : C.live 52 15 = some [1] := by kernel_rfl
@[go_sem] theorem esc_53 : C.esc 53 = [] := by kernel_rfl
@[go_sem] theorem live_53_0 : C.live 53 0 = some [0] := by kernel_rfl
@[go_sem] theorem live_53_1 : C.live 53 1 = some [0] := by kernel_rfl
@[go_sem] theorem live_53_2 : C.live 53 2 = some [] := by kernel_rfl
@[go_sem] theorem live_53_3 : C.live 53 3 = some [0] := by kernel_rfl
@[go_sem] theorem live_53_4 : C.live 53 4 = some [3, 0] := by kernel_rfl
@[go_sem] theorem live_53_6 : C.live 53 6 = some [3, 0] := by kernel_rfl
@[go_sem] theorem live_53_7 : C.live 53 7 = some [] := by kernel_rfl
@[go_sem] theorem live_53_8 : C.live 53 8 = some [0, 3] := by kernel_rfl
@[go_sem] theorem live_53_9 : C.live 53 9 = some [] := by kernel_rfl
@[go_sem] theorem live_53_10 : C.live 53 10 = some [3, 0] := by kernel_rfl
@[go_sem] theorem live_53_11 : C.live 53 11 = some [0, 3, 4] := by kernel_rfl
@[go_sem] theorem live_53_13 : C.live 53 13 = some [0, 3, 4] := by kernel_rfl
@[go_sem] theorem live_53_14 : C.live 53 14 = some [] := by kernel_rfl
@[go_sem] theorem live_53_12 : C.live 53 12 = some [4, 3, 0] := by kernel_rfl
@[go_sem] theorem live_53_5 : C.live 53 5 = some [3, 0] := by kernel_rfl
@[go_sem] theorem live_53_15 : C.live 53 15 = some [] := by kernel_rfl
@[go_sem] theorem esc_54 : C.esc 54 = [] := by kernel_rfl
@[go_sem] theorem live_54_0 : C.live 54 0 = some [0, 1] := by kernel_rfl
@[go_sem] theorem live_54_1 : C.live 54 1 = some [2, 1] := by kernel_rfl
@[go_sem] theorem live_54_2 : C.live 54 2 = some [6, 9, 10, 5, 8, 2, 1, 7] := by kernel_rfl
@[go_sem] theorem live_54_3 : C.live 54 3 = some [] := by kernel_rfl
@[go_sem] theorem live_54_4 : C.live 54 4 = some [7, 1, 2, 8, 5] := by kernel_rfl
@[go_sem] theorem live_54_5 : C.live 54 5 = some [] := by kernel_rfl
@[go_sem] theorem live_54_6 : C.live 54 6 = some [5, 8, 2, 1, 7] := by kernel_rfl
@[go_sem] theorem live_54_7 : C.live 54 7 = some [] := by kernel_rfl
@[go_sem] theorem live_54_8 : C.live 54 8 = some [7, 1, 2, 8] := by kernel_rfl
@[go_sem] theorem live_54_9 : C.live 54 9 = some [1, 2, 8] := by kernel_rfl
@[go_sem] theorem live_54_10 : C.live 54 10 = some [1, 2, 8, 11] := by kernel_rfl
@[go_sem] theorem live_54_11 : C.live 54 11 = some [11] := by kernel_rfl
@[go_sem] theorem live_54_12 : C.live 54 12 = some [8, 2, 1] := by kernel_rfl
@[go_sem] theorem live_54_13 : C.live 54 13 = some [2, 1] := by kernel_rfl
@[go_sem] theorem live_54_14 : C.live 54 14 = some [1, 12] := by kernel_rfl
@[go_sem] theorem live_54_15 : C.live 54 15 = some [12] := by kernel_rfl
@[go_sem] theorem live_54_16 : C.live 54 16 = some [1] := by kernel_rfl
@[go_sem] theorem live_54_17 : C.live 54 17 = some [] := by kernel_rfl
@[go_sem] theorem live_54_18 : C.live 54 18 = some [] := by kernel_rfl
@[go_sem] theorem esc_55 : C.esc 55 = [] := by kernel_rfl
@[go_sem] theorem live_55_0 : C.live 55 0 = some [0, 1] := by kernel_rfl
@[go_sem] theorem live_55_1 : C.live 55 1 = some [3, 2] := by kernel_rfl
@[go_sem] theorem live_55_2 : C.live 55 2 = some [] := by kernel_rfl
@[go_sem] theorem live_55_3 : C.live 55 3 = some [2, 3] := by kernel_rfl
@[go_sem] theorem live_55_4 : C.live 55 4 = some [2, 3, 7, 8] := by kernel_rfl
@[go_sem] theorem live_55_5 : C.live 55 5 = some [7, 8] := by kernel_rfl
@[go_sem] theorem live_55_6 : C.live 55 6 = some [3, 2, 7] := by kernel_rfl
@[go_sem] theorem live_55_7 : C.live 55 7 = some [7, 9, 8] := by kernel_rfl
@[go_sem] theorem esc_56 : C.esc 56 = [] := by kernel_rfl
@[go_sem] theorem live_56_0 : C.live 56 0 = some [0, 2, 1] := by kernel_rfl
@[go_sem] theorem live_56_1 : C.live 56 1 = some [2, 3, 1] := by kernel_rfl
@[go_sem] theorem live_56_2 : C.live 56 2 = some [7, 2, 3, 1, 8] := by kernel_rfl
@[go_sem] theorem live_56_3 : C.live 56 3 = some [8] := by kernel_rfl
@[go_sem] theorem live_56_4 : C.live 56 4 = some [1, 3, 2, 7] := by kernel_rfl
@[go_sem] theorem live_56_5 : C.live 56 5 = some [7, 2, 3, 1, 9] := by kernel_rfl
@[go_sem] theorem live_56_7 : C.live 56 7 = some [7, 2, 3, 1, 9] := by kernel_rfl
@[go_sem] theorem live_56_8 : C.live 56 8 = some [] := by kernel_rfl
@[go_sem] theorem live_56_6 : C.live 56 6 = some [9, 1, 3, 2, 7] := by kernel_rfl
@[go_sem] theorem live_56_9 : C.live 56 9 = some [2, 7] := by kernel_rfl
@[go_sem] theorem live_56_10 : C.live 56 10 = some [] := by kernel_rfl
@[go_sem] theorem live_56_11 : C.live 56 11 = some [] := by kernel_rfl
@[go_sem] theorem esc_57 : C.esc 57 = [] := by kernel_rfl
@[go_sem] theorem live_57_0 : C.live 57 0 = some [0, 1, 2] := by kernel_rfl
@[go_sem] theorem live_57_1 : C.live 57 1 = some [0, 1, 2] := by kernel_rfl
@[go_sem] theorem live_57_2 : C.live 57 2 = some [7, 1, 2] := by kernel_rfl
@[go_sem] theorem live_57_4 : C.live 57 4 = some [7, 2, 1] := by kernel_rfl
@[go_sem] theorem live_57_6 : C.live 57 6 = some [2, 7, 1] := by kernel_rfl
@[go_sem] theorem live_57_8 : C.live 57 8 = some [7, 1, 2] := by kernel_rfl
@[go_sem] theorem live_57_10 : C.live 57 10 = some [7, 1] := by kernel_rfl
@[go_sem] theorem live_57_11 : C.live 57 11 = some [1] := by kernel_rfl
@[go_sem] theorem live_57_9 : C.live 57 9 = some [1, 2] := by kernel_rfl
@[go_sem] theorem live_57_7 : C.live 57 7 = some [1] := by kernel_rfl
@[go_sem] theorem live_57_5 : C.live 57 5 = some [1] := by kernel_rfl
@[go_sem] theorem live_57_3 : C.live 57 3 = some [1, 2] := by kernel_rfl
@[go_sem] theorem live_57_12 : C.live 57 12 = some [] := by kernel_rfl
@[go_sem] theorem esc_58 : C.esc 58 = [] := by kernel_rfl
@[go_sem] theorem live_58_0 : C.live 58 0 = some [0, 1] := by kernel_rfl
@[go_sem] theorem live_58_1 : C.live 58 1 = some [0, 1] := by kernel_rfl
@[go_sem] theorem esc_59 : C.esc 59 = [] := by kernel_rfl
@[go_sem] theorem live_59_0 : C.live 59 0 = some [0, 1] := by kernel_rfl
@[go_sem] theorem live_59_1 : C.live 59 1 = some [1, 2] := by kernel_rfl
@[go_sem] theorem esc_60 : C.esc 60 = [] := by kernel_rfl
@[go_sem] theorem live_60_0 : C.live 60 0 = some [1, 0] := by kernel_rfl
@[go_sem] theorem live_60_1 : C.live 60 1 = some [3, 0] := by kernel_rfl
@[go_sem] theorem esc_61 : C.esc 61 = [] := by kernel_rfl
@[go_sem] theorem live_61_0 : C.live 61 0 = some [1, 0] := by kernel_rfl
@[go_sem] theorem live_61_1 : C.live 61 1 = some [3, 0] := by kernel_rfl
@[go_sem] theorem esc_62 : C.esc 62 = [] := by kernel_rfl
@[go_sem] theorem live_62_0 : C.live 62 0 = some [0, 1] := by kernel_rfl
@[go_sem] theorem live_62_1 : C.live 62 1 = some [1, 2] := by kernel_rfl
@[go_sem] theorem esc_63 : C.esc 63 = [] := by kernel_rfl
@[go_sem] theorem live_63_0 : C.live 63 0 = some [0] := by kernel_rfl
@[go_sem] theorem live_63_1 : C.live 63 1 = some [0] := by kernel_rfl
@[go_sem] theorem esc_64 : C.esc 64 = [] := by kernel_rfl
@[go_sem] theorem live_64_0 : C.live 64 0 = some [1, 0] := by kernel_rfl
@[go_sem] theorem live_64_1 : C.live 64 1 = some [1, 0] := by kernel_rfl
@[go_sem] theorem live_64_2 : C.live 64 2 = some [1, 0] := by kernel_rfl
@[go_sem] theorem live_64_3 : C.live 64 3 = some [1] := by kernel_rfl
@[go_sem] theorem esc_65 : C.esc 65 = [] := by kernel_rfl
@[go_sem] theorem live_65_0 : C.live 65 0 = some [0] := by kernel_rfl
@[go_sem] theorem live_65_1 : C.live 65 1 = some [0] := by kernel_rfl
@[go_sem] theorem esc_66 : C.esc 66 = [] := by kernel_rfl
@[go_sem] theorem live_66_0 : C.live 66 0 = some [0, 2, 1] := by kernel_rfl
@[go_sem] theorem live_66_1 : C.live 66 1 = some [2, 1, 3, 6] := by kernel_rfl
@[go_sem] theorem live_66_2 : C.live 66 2 = some [7, 2, 1, 3, 6] := by kernel_rfl
@[go_sem] theorem live_66_3 : C.live 66 3 = some [7, 2, 1, 3, 6] := by kernel_rfl
@[go_sem] theorem live_66_4 : C.live 66 4 = some [7, 2, 1, 3, 6] := by kernel_rfl
@[go_sem] theorem live_66_5 : C.live 66 5 = some [8, 7, 2, 1, 3, 6] := by kernel_rfl
@[go_sem] theorem live_66_7 : C.live 66 7 = some [8, 7, 2, 1, 3, 6] := by kernel_rfl
@[go_sem] theorem live_66_6 : C.live 66 6 = some [8, 7, 2, 1, 3, 6] := by kernel_rfl
@[go_sem] theorem live_66_8 : C.live 66 8 = some [7, 6] := by kernel_rfl
@[go_sem] theorem esc_67 : C.esc 67 = [] := by kernel_rfl
@[go_sem] theorem live_67_0 : C.live 67 0 = some [0] := by kernel_rfl
@[go_sem] theorem live_67_1 : C.live 67 1 = some [1] := by kernel_rfl
@[go_sem] theorem esc_68 : C.esc 68 = [] := by kernel_rfl
@[go_sem] theorem live_68_0 : C.live 68 0 = some [1, 2, 0] := by kernel_rfl
@[go_sem] theorem live_68_1 : C.live 68 1 = some [4, 2, 0] := by kernel_rfl
@[go_sem] theorem live_68_2 : C.live 68 2 = some [0] := by kernel_rfl
@[go_sem] theorem live_68_3 : C.live 68 3 = some [0, 2, 4] := by kernel_rfl
@[go_sem] theorem live_68_4 : C.live 68 4 = some [4, 0] := by kernel_rfl
@[go_sem] theorem live_68_5 : C.live 68 5 = some [0, 7, 4] := by kernel_rfl
@[go_sem] theorem live_68_7 : C.live 68 7 = some [0, 7, 4] := by kernel_rfl
@[go_sem] theorem live_68_6 : C.live 68 6 = some [7, 4, 0] := by kernel_rfl
@[go_sem] theorem live_68_8 : C.live 68 8 = some [0] := by kernel_rfl
@[go_sem] theorem esc_69 : C.esc 69 = [3] := by kernel_rfl
@[go_sem] theorem live_69_0 : C.live 69 0 = some [0] := by kernel_rfl
@[go_sem] theorem live_69_1 : C.live 69 1 = some [1] := by kernel_rfl
@[go_sem] theorem live_69_2 : C.live 69 2 = some [] := by kernel_rfl
@[go_sem] theorem live_69_3 : C.live 69 3 = some [1] := by kernel_rfl
@[go_sem] theorem live_69_4 : C.live 69 4 = some [1, 3] := by kernel_rfl
@[go_sem] theorem live_69_5 : C.live 69 5 = some [3] := by kernel_rfl
@[go_sem] theorem live_69_6 : C.live 69 6 = some [1, 3] := by kernel_rfl
@[go_sem] theorem live_69_7 : C.live 69 7 = some [4, 3] := by kernel_rfl
@[go_sem] theorem live_69_8 : C.live 69 8 = some [] := by kernel_rfl
@[go_sem] theorem live_69_9 : C.live 69 9 = some [3] := by kernel_rfl
@[go_sem] theorem esc_70 : C.esc 70 = [] := by kernel_rfl
@[go_sem] theorem live_70_0 : C.live 70 0 = some [0, 1, 2] := by kernel_rfl
@[go_sem] theorem live_70_1 : C.live 70 1 = some [0, 1, 2] := by kernel_rfl
@[go_sem] theorem esc_71 : C.esc 71 = [] := by kernel_rfl
@[go_sem] theorem live_71_0 : C.live 71 0 = some [0, 1] := by kernel_rfl
@[go_sem] theorem live_71_1 : C.live 71 1 = some [0, 1] := by kernel_rfl
@[go_sem] theorem live_71_2 : C.live 71 2 = some [11, 1, 10, 0, 12] := by kernel_rfl
@[go_sem] theorem live_71_3 : C.live 71 3 = some [11, 1, 10, 0, 12] := by kernel_rfl
@[go_sem] theorem live_71_4 : C.live 71 4 = some [6, 11, 1, 10, 0, 12] := by kernel_rfl
@[go_sem] theorem live_71_5 : C.live 71 5 = some [11, 1, 10, 0, 12, 7] := by kernel_rfl
@[go_sem] theorem live_71_6 : C.live 71 6 = some [7] := by kernel_rfl
@[go_sem] theorem live_71_7 : C.live 71 7 = some [12, 0, 10, 1, 11] := by kernel_rfl
@[go_sem] theorem live_71_8 : C.live 71 8 = some [1, 0] := by kernel_rfl
@[go_sem] theorem live_71_9 : C.live 71 9 = some [25, 0, 23, 24] := by kernel_rfl
@[go_sem] theorem live_71_10 : C.live 71 10 = some [25, 0, 23, 24] := by kernel_rfl
@[go_sem] theorem live_71_11 : C.live 71 11 = some [9, 25, 0, 23, 24] := by kernel_rfl
@[go_sem] theorem live_71_12 : C.live 71 12 = some [9, 25, 0, 23, 24] := by kernel_rfl
@[go_sem] theorem live_71_13 : C.live 71 13 = some [25, 0, 23, 24] := by kernel_rfl
@[go_sem] theorem live_71_14 : C.live 71 14 = some [] := by kernel_rfl
@[go_sem] theorem esc_72 : C.esc 72 = [] := by kernel_rfl
@[go_sem] theorem live_72_0 : C.live 72 0 = some [1, 0, 2] := by kernel_rfl
@[go_sem] theorem live_72_1 : C.live 72 1 = some [9, 8, 2, 0, 10] := by kernel_rfl
@[go_sem] theorem live_72_2 : C.live 72 2 = some [9, 8, 2, 0, 10] := by kernel_rfl
@[go_sem] theorem live_72_3 : C.live 72 3 = some [9, 8, 2, 0, 10, 7] := by kernel_rfl
@[go_sem] theorem live_72_4 : C.live 72 4 = some [7, 10, 0, 2, 8, 9] := by kernel_rfl
@[go_sem] theorem live_72_5 : C.live 72 5 = some [7, 10, 0, 2, 8, 9] := by kernel_rfl
@[go_sem] theorem live_72_6 : C.live 72 6 = some [7, 10, 0, 2, 8, 9] := by kernel_rfl
@[go_sem] theorem live_72_7 : C.live 72 7 = some [7, 10, 0, 2, 8, 9] := by kernel_rfl
@[go_sem] theorem live_72_8 : C.live 72 8 = some [7, 10, 0, 2, 8, 9] := by kernel_rfl
@[go_sem] theorem live_72_9 : C.live 72 9 = some [7, 10, 0, 2, 8, 9] := by kernel_rfl
@[go_sem] theorem live_72_10 : C.live 72 10 = some [10, 0, 2, 8, 9] := by kernel_rfl
@[go_sem] theorem esc_73 : C.esc 73 = [] := by kernel_rfl
@[go_sem] theorem live_73_0 : C.live 73 0 = some [0, 1] := by kernel_rfl
@[go_sem] theorem live_73_1 : C.live 73 1 = some [2, 1] := by kernel_rfl
@[go_sem] theorem live_73_2 : C.live 73 2 = some [] := by kernel_rfl
@[go_sem] theorem live_73_3 : C.live 73 3 = some [1, 2] := by kernel_rfl
@[go_sem] theorem live_73_4 : C.live 73 4 = some [2, 1, 5] := by kernel_rfl
@[go_sem] theorem live_73_6 : C.live 73 6 = some [2, 1, 5] := by kernel_rfl
@[go_sem] theorem live_73_7 : C.live 73 7 = some [] := by kernel_rfl
@[go_sem] theorem live_73_5 : C.live 73 5 = some [5, 1, 2] := by kernel_rfl
@[go_sem] theorem live_73_8 : C.live 73 8 = some [] := by kernel_rfl
@[go_sem] theorem esc_74 : C.esc 74 = [] := by kernel_rfl
@[go_sem] theorem live_74_0 : C.live 74 0 = some [0] := by kernel_rfl
@[go_sem] theorem live_74_1 : C.live 74 1 = some [0] := by kernel_rfl
@[go_sem] theorem live_74_2 : C.live 74 2 = some [8] := by kernel_rfl
@[go_sem] theorem live_74_3 : C.live 74 3 = some [8] := by kernel_rfl
@[go_sem] theorem live_74_5 : C.live 74 5 = some [8] := by kernel_rfl
@[go_sem] theorem live_74_7 : C.live 74 7 = some [8] := by kernel_rfl
@[go_sem] theorem live_74_8 : C.live 74 8 = some [8] := by kernel_rfl
@[go_sem] theorem live_74_10 : C.live 74 10 = some [8] := by kernel_rfl
@[go_sem] theorem live_74_12 : C.live 74 12 = some [8] := by kernel_rfl
@[go_sem] theorem live_74_13 : C.live 74 13 = some [] := by kernel_rfl
@[go_sem] theorem live_74_11 : C.live 74 11 = some [] := by kernel_rfl
@[go_sem] theorem live_74_9 : C.live 74 9 = some [] := by kernel_rfl
@[go_sem] theorem live_74_6 : C.live 74 6 = some [] := by kernel_rfl
@[go_sem] theorem live_74_4 : C.live 74 4 = some [] := by kernel_rfl
@[go_sem] theorem live_74_14 : C.live 74 14 = some [] := by kernel_rfl
@[go_sem] theorem esc_75 : C.esc 75 = [] := by kernel_rfl
@[go_sem] theorem live_75_0 : C.live 75 0 = some [0] := by kernel_rfl
@[go_sem] theorem live_75_1 : C.live 75 1 = some [1] := by kernel_rfl
@[go_sem] theorem esc_76 : C.esc 76 = [] := by kernel_rfl
@[go_sem] theorem live_76_0 : C.live 76 0 = some [0, 1] := by kernel_rfl
@[go_sem] theorem live_76_1 : C.live 76 1 = some [1, 2] := by kernel_rfl
@[go_sem] theorem live_76_2 : C.live 76 2 = some [1, 2, 6] := by kernel_rfl
@[go_sem] theorem live_76_3 : C.live 76 3 = some [6] := by kernel_rfl
@[go_sem] theorem live_76_4 : C.live 76 4 = some [2, 1] := by kernel_rfl
@[go_sem] theorem esc_77 : C.esc 77 = [] := by kernel_rfl
@[go_sem] theorem live_77_0 : C.live 77 0 = some [0, 1] := by kernel_rfl
@[go_sem] theorem live_77_1 : C.live 77 1 = some [0, 1] := by kernel_rfl
@[go_sem] theorem live_77_2 : C.live 77 2 = some [1, 6, 0] := by kernel_rfl
@[go_sem] theorem live_77_4 : C.live 77 4 = some [1, 6, 0] := by kernel_rfl
@[go_sem] theorem live_77_5 : C.live 77 5 = some [6, 0] := by kernel_rfl
@[go_sem] theorem live_77_6 : C.live 77 6 = some [] := by kernel_rfl
@[go_sem] theorem live_77_7 : C.live 77 7 = some [0, 6] := by kernel_rfl
@[go_sem] theorem live_77_3 : C.live 77 3 = some [6, 0, 1] := by kernel_rfl
@[go_sem] theorem live_77_8 : C.live 77 8 = some [] := by kernel_rfl
@[go_sem] theorem esc_78 : C.esc 78 = [] := by kernel_rfl
@[go_sem] theorem live_78_0 : C.live 78 0 = some [0, 1] := by kernel_rfl
@[go_sem] theorem live_78_1 : C.live 78 1 = some [0, 1] := by kernel_rfl
@[go_sem] theorem live_78_2 : C.live 78 2 = some [7, 1, 0, 8] := by kernel_rfl
@[go_sem] theorem live_78_3 : C.live 78 3 = some [7, 1, 0, 8] := by kernel_rfl
@[go_sem] theorem live_78_4 : C.live 78 4 = some [7, 1, 0, 8, 5] := by kernel_rfl
@[go_sem] theorem live_78_5 : C.live 78 5 = some [5] := by kernel_rfl
@[go_sem] theorem live_78_6 : C.live 78 6 = some [8, 0, 1, 7] := by kernel_rfl
@[go_sem] theorem live_78_7 : C.live 78 7 = some [] := by kernel_rfl
@[go_sem] theorem esc_79 : C.esc 79 = [] := by kernel_rfl
@[go_sem] theorem live_79_0 : C.live 79 0 = some [0] := by kernel_rfl
@[go_sem] theorem live_79_1 : C.live 79 1 = some [0] := by kernel_rfl
@[go_sem] theorem esc_80 : C.esc 80 = [] := by kernel_rfl
@[go_sem] theorem live_80_0 : C.live 80 0 = some [0, 1] := by kernel_rfl
@[go_sem] theorem live_80_1 : C.live 80 1 = some [0, 1] := by kernel_rfl
@[go_sem] theorem esc_81 : C.esc 81 = [] := by kernel_rfl
@[go_sem] theorem live_81_0 : C.live 81 0 = some [0] := by kernel_rfl
@[go_sem] theorem live_81_1 : C.live 81 1 = some [0] := by kernel_rfl
@[go_sem] theorem esc_82 : C.esc 82 = [] := by kernel_rfl
@[go_sem] theorem live_82_0 : C.live 82 0 = some [1, 0] := by kernel_rfl
@[go_sem] theorem live_82_1 : C.live 82 1 = some [1, 0] := by kernel_rfl
@[go_sem] theorem live_82_2 : C.live 82 2 = some [0, 1, 5] := by kernel_rfl
@[go_sem] theorem live_82_4 : C.live 82 4 = some [0, 1, 5] := by kernel_rfl
@[go_sem] theorem live_82_5 : C.live 82 5 = some [] := by kernel_rfl
@[go_sem] theorem live_82_3 : C.live 82 3 = some [5, 1, 0] := by kernel_rfl
@[go_sem] theorem live_82_6 : C.live 82 6 = some [] := by kernel_rfl
@[go_sem] theorem esc_83 : C.esc 83 = [] := by kernel_rfl
@[go_sem] theorem live_83_0 : C.live 83 0 = some [] := by kernel_rfl
@[go_sem] theorem live_83_1 : C.live 83 1 = some [] := by kernel_rfl
@[go_sem] theorem esc_84 : C.esc 84 = [] := by kernel_rfl
@[go_sem] theorem live_84_0 : C.live 84 0 = some [0] := by kernel_rfl
@[go_sem] theorem live_84_1 : C.live 84 1 = some [0] := by kernel_rfl
@[go_sem] theorem esc_85 : C.esc 85 = [4] := by kernel_rfl
@[go_sem] theorem live_85_0 : C.live 85 0 = some [0] := by kernel_rfl
@[go_sem] theorem live_85_1 : C.live 85 1 = some [0] := by kernel_rfl
@[go_sem] theorem live_85_2 : C.live 85 2 = some [] := by kernel_rfl
@[go_sem] theorem live_85_3 : C.live 85 3 = some [0] := by kernel_rfl
@[go_sem] theorem live_85_4 : C.live 85 4 = some [9, 8, 0, 10] := by kernel_rfl
@[go_sem] theorem live_85_5 : C.live 85 5 = some [9, 8, 0, 10] := by kernel_rfl
@[go_sem] theorem live_85_6 : C.live 85 6 = some [3, 4, 9, 8, 0, 10] := by kernel_rfl
@[go_sem] theorem live_85_8 : C.live 85 8 = some [10, 0, 8, 9, 4, 3] := by kernel_rfl
@[go_sem] theorem live_85_10 : C.live 85 10 = some [3, 4, 9, 8, 0, 10] := by kernel_rfl
@[go_sem] theorem live_85_11 : C.live 85 11 = some [] := by kernel_rfl
@[go_sem] theorem live_85_9 : C.live 85 9 = some [] := by kernel_rfl
@[go_sem] theorem live_85_7 : C.live 85 7 = some [] := by kernel_rfl
@[go_sem] theorem live_85_12 : C.live 85 12 = some [10, 0, 8, 9] := by kernel_rfl
@[go_sem] theorem live_85_13 : C.live 85 13 = some [] := by kernel_rfl
@[go_sem] theorem esc_86 : C.esc 86 = [] := by kernel_rfl
@[go_sem] theorem live_86_0 : C.live 86 0 = some [0, 1, 2] := by kernel_rfl
@[go_sem] theorem live_86_1 : C.live 86 1 = some [3, 1, 2] := by kernel_rfl
@[go_sem] theorem live_86_2 : C.live 86 2 = some [3, 1, 2] := by kernel_rfl
@[go_sem] theorem esc_87 : C.esc 87 = [] := by kernel_rfl
@[go_sem] theorem live_87_0 : C.live 87 0 = some [0, 1] := by kernel_rfl
@[go_sem] theorem live_87_1 : C.live 87 1 = some [1, 2] := by kernel_rfl
@[go_sem] theorem live_87_2 : C.live 87 2 = some [6, 1, 2, 5] := by kernel_rfl
@[go_sem] theorem live_87_3 : C.live 87 3 = some [] := by kernel_rfl
@[go_sem] theorem live_87_4 : C.live 87 4 = some [5, 2, 1] := by kernel_rfl
@[go_sem] theorem live_87_5 : C.live 87 5 = some [] := by kernel_rfl
@[go_sem] theorem live_87_6 : C.live 87 6 = some [1, 2, 5] := by kernel_rfl
@[go_sem] theorem live_87_7 : C.live 87 7 = some [1, 2, 5] := by kernel_rfl
@[go_sem] theorem live_87_8 : C.live 87 8 = some [1, 2, 5, 7] := by kernel_rfl
@[go_sem] theorem live_87_9 : C.live 87 9 = some [7] := by kernel_rfl
@[go_sem] theorem live_87_10 : C.live 87 10 = some [5, 2, 1] := by kernel_rfl
@[go_sem] theorem live_87_11 : C.live 87 11 = some [2, 1] := by kernel_rfl
@[go_sem] theorem live_87_12 : C.live 87 12 = some [1, 8] := by kernel_rfl
@[go_sem] theorem live_87_13 : C.live 87 13 = some [8] := by kernel_rfl
@[go_sem] theorem live_87_14 : C.live 87 14 = some [1] := by kernel_rfl
@[go_sem] theorem live_87_15 : C.live 87 15 = some [] := by kernel_rfl
@[go_sem] theorem live_87_16 : C.live 87 16 = some [] := by kernel_rfl
@[go_sem] theorem esc_88 : C.esc 88 = [] := by kernel_rfl
@[go_sem] theorem live_88_0 : C.live 88 0 = some [1, 0] := by kernel_rfl
@[go_sem] theorem live_88_1 : C.live 88 1 = some [3, 0] := by kernel_rfl
@[go_sem] theorem live_88_2 : C.live 88 2 = some [5, 3, 0, 6, 7] := by kernel_rfl
@[go_sem] theorem live_88_3 : C.live 88 3 = some [7] := by kernel_rfl
@[go_sem] theorem live_88_4 : C.live 88 4 = some [6, 0, 3, 5] := by kernel_rfl
@[go_sem] theorem live_88_5 : C.live 88 5 = some [23, 6, 0, 3, 5] := by kernel_rfl
@[go_sem] theorem live_88_7 : C.live 88 7 = some [6, 23, 5, 3, 0] := by kernel_rfl
@[go_sem] theorem live_88_15 : C.live 88 15 = some [3, 0, 23, 5, 6] := by kernel_rfl
@[go_sem] theorem live_88_18 : C.live 88 18 = some [6, 23, 0, 3, 5] := by kernel_rfl
@[go_sem] theorem live_88_21 : C.live 88 21 = some [3, 0, 23, 6, 5] := by kernel_rfl
@[go_sem] theorem live_88_24 : C.live 88 24 = some [6, 23, 5, 0, 3] := by kernel_rfl
@[go_sem] theorem live_88_31 : C.live 88 31 = some [23, 5, 6, 3, 0] := by kernel_rfl
@[go_sem] theorem live_88_32 : C.live 88 32 = some [5, 6, 3, 0] := by kernel_rfl
@[go_sem] theorem live_88_33 : C.live 88 33 = some [] := by kernel_rfl
@[go_sem] theorem live_88_34 : C.live 88 34 = some [0, 3] := by kernel_rfl
@[go_sem] theorem live_88_35 : C.live 88 35 = some [0, 3] := by kernel_rfl
@[go_sem] theorem live_88_36 : C.live 88 36 = some [0, 3] := by kernel_rfl
@[go_sem] theorem live_88_37 : C.live 88 37 = some [0, 3, 11] := by kernel_rfl
@[go_sem] theorem live_88_38 : C.live 88 38 = some [11] := by kernel_rfl
@[go_sem] theorem live_88_25 : C.live 88 25 = some [5, 0, 3] := by kernel_rfl
@[go_sem] theorem live_88_26 : C.live 88 26 = some [] := by kernel_rfl
@[go_sem] theorem live_88_27 : C.live 88 27 = some [3, 0] := by kernel_rfl
@[go_sem] theorem live_88_28 : C.live 88 28 = some [3, 0, 10] := by kernel_rfl
@[go_sem] theorem live_88_29 : C.live 88 29 = some [10] := by kernel_rfl
@[go_sem] theorem live_88_30 : C.live 88 30 = some [0, 3] := by kernel_rfl
@[go_sem] theorem live_88_22 : C.live 88 22 = some [5] := by kernel_rfl
@[go_sem] theorem live_88_23 : C.live 88 23 = some [] := by kernel_rfl
@[go_sem] theorem live_88_19 : C.live 88 19 = some [5] := by kernel_rfl
@[go_sem] theorem live_88_20 : C.live 88 20 = some [] := by kernel_rfl
@[go_sem] theorem live_88_16 : C.live 88 16 = some [5, 6] := by kernel_rfl
@[go_sem] theorem live_88_17 : C.live 88 17 = some [] := by kernel_rfl
@[go_sem] theorem live_88_8 : C.live 88 8 = some [5, 3, 0] := by kernel_rfl
@[go_sem] theorem live_88_9 : C.live 88 9 = some [9, 8, 5, 3, 0] := by kernel_rfl
@[go_sem] theorem live_88_11 : C.live 88 11 = some [0, 3, 5, 8] := by kernel_rfl
@[go_sem] theorem live_88_13 : C.live 88 13 = some [8, 5] := by kernel_rfl
@[go_sem] theorem live_88_14 : C.live 88 14 = some [] := by kernel_rfl
@[go_sem] theorem live_88_12 : C.live 88 12 = some [] := by kernel_rfl
@[go_sem] theorem live_88_10 : C.live 88 10 = some [] := by kernel_rfl
@[go_sem] theorem live_88_6 : C.live 88 6 = some [0, 3, 5] := by kernel_rfl
@[go_sem] theorem live_88_39 : C.live 88 39 = some [] := by kernel_rfl
@[go_sem] theorem esc_89 : C.esc 89 = [] := by kernel_rfl
@[go_sem] theorem live_89_0 : C.live 89 0 = some [1, 0] := by kernel_rfl
@[go_sem] theorem live_89_1 : C.live 89 1 = some [3, 0] := by kernel_rfl
@[go_sem] theorem live_89_2 : C.live 89 2 = some [0, 3] := by kernel_rfl
@[go_sem] theorem live_89_3 : C.live 89 3 = some [0, 3] := by kernel_rfl
@[go_sem] theorem esc_90 : C.esc 90 = [] := by kernel_rfl
@[go_sem] theorem live_90_0 : C.live 90 0 = some [0, 1] := by kernel_rfl
@[go_sem] theorem live_90_1 : C.live 90 1 = some [2, 1] := by kernel_rfl
@[go_sem] theorem live_90_2 : C.live 90 2 = some [2, 1, 5] := by kernel_rfl
@[go_sem] theorem live_90_3 : C.live 90 3 = some [5] := by kernel_rfl
@[go_sem] theorem live_90_4 : C.live 90 4 = some [1, 2] := by kernel_rfl
@[go_sem] theorem live_90_5 : C.live 90 5 = some [2, 1, 6] := by kernel_rfl
@[go_sem] theorem live_90_7 : C.live 90 7 = some [2, 1, 6] := by kernel_rfl
@[go_sem] theorem live_90_8 : C.live 90 8 = some [2, 1, 6, 7] := by kernel_rfl
@[go_sem] theorem live_90_9 : C.live 90 9 = some [7] := by kernel_rfl
@[go_sem] theorem live_90_6 : C.live 90 6 = some [6, 1, 2] := by kernel_rfl
@[go_sem] theorem live_90_10 : C.live 90 10 = some [] := by kernel_rfl
@[go_sem] theorem esc_91 : C.esc 91 = [] := by kernel_rfl
@[go_sem] theorem live_91_0 : C.live 91 0 = some [0, 1] := by kernel_rfl
@[go_sem] theorem live_91_1 : C.live 91 1 = some [2, 1] := by kernel_rfl
@[go_sem] theorem live_91_2 : C.live 91 2 = some [6, 2, 1] := by kernel_rfl
@[go_sem] theorem live_91_3 : C.live 91 3 = some [2, 1] := by kernel_rfl
@[go_sem] theorem live_91_4 : C.live 91 4 = some [2, 1, 6] := by kernel_rfl
@[go_sem] theorem live_91_5 : C.live 91 5 = some [7, 2, 1, 6, 8] := by kernel_rfl
@[go_sem] theorem live_91_6 : C.live 91 6 = some [8] := by kernel_rfl
@[go_sem] theorem live_91_7 : C.live 91 7 = some [6, 1, 2, 7] := by kernel_rfl
@[go_sem] theorem live_91_8 : C.live 91 8 = some [2, 7] := by kernel_rfl
@[go_sem] theorem live_91_9 : C.live 91 9 = some [7, 9, 10] := by kernel_rfl
@[go_sem] theorem live_91_10 : C.live 91 10 = some [] := by kernel_rfl
@[go_sem] theorem live_91_11 : C.live 91 11 = some [10] := by kernel_rfl
@[go_sem] theorem live_91_12 : C.live 91 12 = some [1, 7, 2] := by kernel_rfl
@[go_sem] theorem live_91_13 : C.live 91 13 = some [11, 7, 2, 8] := by kernel_rfl
@[go_sem] theorem live_91_14 : C.live 91 14 = some [8] := by kernel_rfl
@[go_sem] theorem live_91_15 : C.live 91 15 = some [2, 7, 11] := by kernel_rfl
@[go_sem] theorem live_91_16 : C.live 91 16 = some [12] := by kernel_rfl
@[go_sem] theorem live_91_17 : C.live 91 17 = some [] := by kernel_rfl
@[go_sem] theorem live_91_18 : C.live 91 18 = some [12] := by kernel_rfl
@[go_sem] theorem esc_92 : C.esc 92 = [] := by kernel_rfl
@[go_sem] theorem live_92_0 : C.live 92 0 = some [0, 1] := by kernel_rfl
@[go_sem] theorem live_92_1 : C.live 92 1 = some [0, 1] := by kernel_rfl
@[go_sem] theorem live_92_2 : C.live 92 2 = some [7, 1, 0, 8] := by kernel_rfl
@[go_sem] theorem live_92_3 : C.live 92 3 = some [7, 1, 0, 8] := by kernel_rfl
@[go_sem] theorem live_92_4 : C.live 92 4 = some [7, 1, 0, 8, 5] := by kernel_rfl
@[go_sem] theorem live_92_5 : C.live 92 5 = some [5] := by kernel_rfl
@[go_sem] theorem live_92_6 : C.live 92 6 = some [8, 0, 1, 7] := by kernel_rfl
@[go_sem] theorem live_92_7 : C.live 92 7 = some [] := by kernel_rfl
@[go_sem] theorem esc_93 : C.esc 93 = [] := by kernel_rfl
@[go_sem] theorem live_93_0 : C.live 93 0 = some [0] := by kernel_rfl
@[go_sem] theorem live_93_1 : C.live 93 1 = some [0] := by kernel_rfl
@[go_sem] theorem esc_94 : C.esc 94 = [] := by kernel_rfl
@[go_sem] theorem live_94_0 : C.live 94 0 = some [0] := by kernel_rfl
@[go_sem] theorem live_94_1 : C.live 94 1 = some [0] := by kernel_rfl
@[go_sem] theorem esc_95 : C.esc 95 = [] := by kernel_rfl
@[go_sem] theorem live_95_0 : C.live 95 0 = some [0] := by kernel_rfl
@[go_sem] theorem live_95_1 : C.live 95 1 = some [0] := by kernel_rfl
@[go_sem] theorem live_95_2 : C.live 95 2 = some [6, 0] := by kernel_rfl
@[go_sem] theorem live_95_3 : C.live 95 3 = some [7, 6, 0] := by kernel_rfl
@[go_sem] theorem live_95_4 : C.live 95 4 = some [4, 6, 0, 3] := by kernel_rfl
@[go_sem] theorem live_95_5 : C.live 95 5 = some [3] := by kernel_rfl
@[go_sem] theorem live_95_6 : C.live 95 6 = some [0] := by kernel_rfl
@[go_sem] theorem esc_96 : C.esc 96 = [] := by kernel_rfl
@[go_sem] theorem live_96_0 : C.live 96 0 = some [0] := by kernel_rfl
@[go_sem] theorem live_96_1 : C.live 96 1 = some [0] := by kernel_rfl
@[go_sem] theorem live_96_2 : C.live 96 2 = some [3] := by kernel_rfl
@[go_sem] theorem live_96_3 : C.live 96 3 = some [3] := by kernel_rfl
@[go_sem] theorem live_96_4 : C.live 96 4 = some [3] := by kernel_rfl
@[go_sem] theorem live_96_5 : C.live 96 5 = some [3] := by kernel_rfl
@[go_sem] theorem live_96_6 : C.live 96 6 = some [3] := by kernel_rfl
@[go_sem] theorem live_96_7 : C.live 96 7 = some [3] := by kernel_rfl
@[go_sem] theorem live_96_8 : C.live 96 8 = some [3] := by kernel_rfl
@[go_sem] theorem live_96_9 : C.live 96 9 = some [3] := by kernel_rfl
@[go_sem] theorem live_96_10 : C.live 96 10 = some [3] := by kernel_rfl
@[go_sem] theorem live_96_11 : C.live 96 11 = some [3] := by kernel_rfl
@[go_sem] theorem live_96_12 : C.live 96 12 = some [3] := by kernel_rfl
@[go_sem] theorem live_96_13 : C.live 96 13 = some [3] := by kernel_rfl
@[go_sem] theorem live_96_14 : C.live 96 14 = some [3] := by kernel_rfl
@[go_sem] theorem live_96_15 : C.live 96 15 = some [3] := by kernel_rfl
@[go_sem] theorem live_96_16 : C.live 96 16 = some [3] := by kernel_rfl
@[go_sem] theorem live_96_17 : C.live 96 17 = some [3] := by kernel_rfl
@[go_sem] theorem live_96_18 : C.live 96 18 = some [3] := by kernel_rfl
@[go_sem] theorem live_96_19 : C.live 96 19 = some [3] := by kernel_rfl
@[go_sem] theorem live_96_20 : C.live 96 20 = some [3] := by kernel_rfl
@[go_sem] theorem live_96_21 : C.live 96 21 = some [3] := by kernel_rfl
@[go_sem] theorem live_96_22 : C.live 96 22 = some [3] := by kernel_rfl
@[go_sem] theorem live_96_23 : C.live 96 23 = some [3] := by kernel_rfl
@[go_sem] theorem live_96_24 : C.live 96 24 = some [3] := by kernel_rfl
@[go_sem] theorem live_96_25 : C.live 96 25 = some [3] := by kernel_rfl
@[go_sem] theorem live_96_26 : C.live 96 26 = some [3] := by kernel_rfl
@[go_sem] theorem live_96_27 : C.live 96 27 = some [] := by kernel_rfl
@[go_sem] theorem live_96_28 : C.live 96 28 = some [] := by kernel_rfl
@[go_sem] theorem esc_97 : C.esc 97 = [] := by kernel_rfl
@[go_sem] theorem live_97_0 : C.live 97 0 = some [0, 1] := by kernel_rfl
@[go_sem] theorem live_97_1 : C.live 97 1 = some [0, 1] := by kernel_rfl
@[go_sem] theorem esc_98 : C.esc 98 = [] := by kernel_rfl
@[go_sem] theorem live_98_0 : C.live 98 0 = some [0, 1] := by kernel_rfl
@[go_sem] theorem live_98_1 : C.live 98 1 = some [2, 1] := by kernel_rfl
@[go_sem] theorem esc_99 : C.esc 99 = [] := by kernel_rfl
@[go_sem] theorem live_99_0 : C.live 99 0 = some [0] := by kernel_rfl
@[go_sem] theorem live_99_1 : C.live 99 1 = some [0, 2] := by kernel_rfl
@[go_sem] theorem live_99_2 : C.live 99 2 = some [4, 2] := by kernel_rfl
@[go_sem] theorem live_99_3 : C.live 99 3 = some [4, 2] := by kernel_rfl
@[go_sem] theorem live_99_5 : C.live 99 5 = some [4, 2] := by kernel_rfl
@[go_sem] theorem live_99_7 : C.live 99 7 = some [4, 2] := by kernel_rfl
@[go_sem] theorem live_99_8 : C.live 99 8 = some [4, 2] := by kernel_rfl
@[go_sem] theorem live_99_10 : C.live 99 10 = some [4, 2] := by kernel_rfl
@[go_sem] theorem live_99_12 : C.live 99 12 = some [4, 2] := by kernel_rfl
@[go_sem] theorem live_99_14 : C.live 99 14 = some [4, 2] := by kernel_rfl
@[go_sem] theorem live_99_15 : C.live 99 15 = some [2] := by kernel_rfl
@[go_sem] theorem live_99_13 : C.live 99 13 = some [2] := by kernel_rfl
@[go_sem] theorem live_99_11 : C.live 99 11 = some [2] := by kernel_rfl
@[go_sem] theorem live_99_9 : C.live 99 9 = some [2] := by kernel_rfl
@[go_sem] theorem live_99_6 : C.live 99 6 = some [2] := by kernel_rfl
@[go_sem] theorem live_99_4 : C.live 99 4 = some [2] := by kernel_rfl
@[go_sem] theorem live_99_16 : C.live 99 16 = some [2] := by kernel_rfl
@[go_sem] theorem esc_100 : C.esc 100 = [] := by kernel_rfl
@[go_sem] theorem live_100_0 : C.live 100 0 = some [0, 1] := by kernel_rfl
@[go_sem] theorem live_100_1 : C.live 100 1 = some [3, 2] := by kernel_rfl
@[go_sem] theorem live_100_2 : C.live 100 2 = some [] := by kernel_rfl
@[go_sem] theorem live_100_3 : C.live 100 3 = some [2] := by kernel_rfl
@[go_sem] theorem live_100_4 : C.live 100 4 = some [68, 2] := by kernel_rfl
@[go_sem] theorem live_100_6 : C.live 100 6 = some [68, 2] := by kernel_rfl
@[go_sem] theorem live_100_7 : C.live 100 7 = some [2] := by kernel_rfl
@[go_sem] theorem live_100_5 : C.live 100 5 = some [2] := by kernel_rfl
@[go_sem] theorem live_100_8 : C.live 100 8 = some [] := by kernel_rfl
@[go_sem] theorem esc_101 : C.esc 101 = [] := by kernel_rfl
@[go_sem] theorem live_101_0 : C.live 101 0 = some [0] := by kernel_rfl
@[go_sem] theorem live_101_1 : C.live 101 1 = some [1] := by kernel_rfl
@[go_sem] theorem esc_102 : C.esc 102 = [] := by kernel_rfl
@[go_sem] theorem live_102_0 : C.live 102 0 = some [1, 0] := by kernel_rfl
@[go_sem] theorem live_102_1 : C.live 102 1 = some [0, 3, 5] := by kernel_rfl
@[go_sem] theorem live_102_2 : C.live 102 2 = some [] := by kernel_rfl
@[go_sem] theorem live_102_3 : C.live 102 3 = some [5, 3, 0] := by kernel_rfl
@[go_sem] theorem live_102_4 : C.live 102 4 = some [6, 5, 3, 0, 4] := by kernel_rfl
@[go_sem] theorem live_102_5 : C.live 102 5 = some [3, 0, 4] := by kernel_rfl
@[go_sem] theorem live_102_6 : C.live 102 6 = some [4, 5, 6] := by kernel_rfl
@[go_sem] theorem esc_103 : C.esc 103 = [] := by kernel_rfl
@[go_sem] theorem live_103_0 : C.live 103 0 = some [0] := by kernel_rfl
@[go_sem] theorem live_103_1 : C.live 103 1 = some [1] := by kernel_rfl
@[go_sem] theorem esc_104 : C.esc 104 = [] := by kernel_rfl
@[go_sem] theorem live_104_0 : C.live 104 0 = some [1, 0] := by kernel_rfl
@[go_sem] theorem live_104_1 : C.live 104 1 = some [0, 3] := by kernel_rfl
@[go_sem] theorem live_104_2 : C.live 104 2 = some [3, 0] := by kernel_rfl
@[go_sem] theorem live_104_3 : C.live 104 3 = some [3, 0] := by kernel_rfl
@[go_sem] theorem live_104_4 : C.live 104 4 = some [21, 0, 19, 20] := by kernel_rfl
@[go_sem] theorem live_104_5 : C.live 104 5 = some [21, 0, 19, 20] := by kernel_rfl
@[go_sem] theorem live_104_6 : C.live 104 6 = some [5, 21, 0, 19, 20] := by kernel_rfl
@[go_sem] theorem live_104_7 : C.live 104 7 = some [21, 0, 19, 20] := by kernel_rfl
@[go_sem] theorem esc_105 : C.esc 105 = [] := by kernel_rfl
@[go_sem] theorem live_105_0 : C.live 105 0 = some [0, 1] := by kernel_rfl
@[go_sem] theorem live_105_1 : C.live 105 1 = some [2, 1] := by kernel_rfl
@[go_sem] theorem live_105_2 : C.live 105 2 = some [] := by kernel_rfl
@[go_sem] theorem live_105_3 : C.live 105 3 = some [1, 2] := by kernel_rfl
@[go_sem] theorem live_105_4 : C.live 105 4 = some [] := by kernel_rfl
@[go_sem] theorem live_105_5 : C.live 105 5 = some [2, 1] := by kernel_rfl
@[go_sem] theorem live_105_6 : C.live 105 6 = some [] := by kernel_rfl
@[go_sem] theorem live_105_7 : C.live 105 7 = some [1] := by kernel_rfl
@[go_sem] theorem live_105_8 : C.live 105 8 = some [] := by kernel_rfl
@[go_sem] theorem live_105_9 : C.live 105 9 = some [] := by kernel_rfl
@[go_sem] theorem esc_106 : C.esc 106 = [] := by kernel_rfl
@[go_sem] theorem live_106_0 : C.live 106 0 = some [0] := by kernel_rfl
@[go_sem] theorem live_106_1 : C.live 106 1 = some [0] := by kernel_rfl
@[go_sem] theorem live_106_2 : C.live 106 2 = some [0, 3] := by kernel_rfl
@[go_sem] theorem live_106_3 : C.live 106 3 = some [0, 3] := by kernel_rfl
@[go_sem] theorem live_106_4 : C.live 106 4 = some [0, 3] := by kernel_rfl
@[go_sem] theorem live_106_5 : C.live 106 5 = some [0, 3] := by kernel_rfl
@[go_sem] theorem live_106_6 : C.live 106 6 = some [0, 3] := by kernel_rfl
@[go_sem] theorem live_106_7 : C.live 106 7 = some [0, 3] := by kernel_rfl
@[go_sem] theorem live_106_9 : C.live 106 9 = some [3, 0] := by kernel_rfl
@[go_sem] theorem live_106_10 : C.live 106 10 = some [3, 0] := by kernel_rfl
@[go_sem] theorem live_106_11 : C.live 106 11 = some [3, 0] := by kernel_rfl
@[go_sem] theorem live_106_12 : C.live 106 12 = some [3, 0] := by kernel_rfl
@[go_sem] theorem live_106_13 : C.live 106 13 = some [3, 0] := by kernel_rfl
@[go_sem] theorem live_106_14 : C.live 106 14 = some [3, 0] := by kernel_rfl
@[go_sem] theorem live_106_15 : C.live 106 15 = some [3, 0] := by kernel_rfl
@[go_sem] theorem live_106_16 : C.live 106 16 = some [] := by kernel_rfl
@[go_sem] theorem live_106_8 : C.live 106 8 = some [] := by kernel_rfl
@[go_sem] theorem live_106_17 : C.live 106 17 = some [0] := by kernel_rfl
@[go_sem] theorem live_106_18 : C.live 106 18 = some [] := by kernel_rfl
@[go_sem] theorem live_106_19 : C.live 106 19 = some [] := by kernel_rfl
@[go_sem] theorem esc_107 : C.esc 107 = [] := by kernel_rfl
@[go_sem] theorem live_107_0 : C.live 107 0 = some [0, 1] := by kernel_rfl
@[go_sem] theorem live_107_1 : C.live 107 1 = some [1, 2] := by kernel_rfl
@[go_sem] theorem live_107_2 : C.live 107 2 = some [1, 2] := by kernel_rfl
@[go_sem] theorem live_107_3 : C.live 107 3 = some [2] := by kernel_rfl
@[go_sem] theorem live_107_4 : C.live 107 4 = some [] := by kernel_rfl
@[go_sem] theorem live_107_5 : C.live 107 5 = some [] := by kernel_rfl
@[go_sem] theorem esc_108 : C.esc 108 = [] := by kernel_rfl
@[go_sem] theorem live_108_0 : C.live 108 0 = some [0] := by kernel_rfl
@[go_sem] theorem live_108_1 : C.live 108 1 = some [0] := by kernel_rfl
@[go_sem] theorem live_108_2 : C.live 108 2 = some [4] := by kernel_rfl
@[go_sem] theorem live_108_4 : C.live 108 4 = some [4] := by kernel_rfl
@[go_sem] theorem live_108_6 : C.live 108 6 = some [4] := by kernel_rfl
@[go_sem] theorem live_108_8 : C.live 108 8 = some [4] := by kernel_rfl
@[go_sem] theorem live_108_9 : C.live 108 9 = some [4] := by kernel_rfl
@[go_sem] theorem live_108_11 : C.live 108 11 = some [4] := by kernel_rfl
@[go_sem] theorem live_108_12 : C.live 108 12 = some [] := by kernel_rfl
@[go_sem] theorem live_108_10 : C.live 108 10 = some [] := by kernel_rfl
@[go_sem] theorem live_108_7 : C.live 108 7 = some [] := by kernel_rfl
@[go_sem] theorem live_108_5 : C.live 108 5 = some [] := by kernel_rfl
@[go_sem] theorem live_108_3 : C.live 108 3 = some [] := by kernel_rfl
@[go_sem] theorem live_108_13 : C.live 108 13 = some [] := by kernel_rfl
@[go_sem] theorem esc_109 : C.esc 109 = [] := by kernel_rfl
@[go_sem] theorem live_109_0 : C.live 109 0 = some [2, 1, 0] := by kernel_rfl
@[go_sem] theorem live_109_1 : C.live 109 1 = some [2, 1, 0] := by kernel_rfl
@[go_sem] theorem live_109_2 : C.live 109 2 = some [] := by kernel_rfl
@[go_sem] theorem live_109_3 : C.live 109 3 = some [0, 1] := by kernel_rfl
@[go_sem] theorem live_109_4 : C.live 109 4 = some [] := by kernel_rfl
@[go_sem] theorem live_109_5 : C.live 109 5 = some [1, 0] := by kernel_rfl
@[go_sem] theorem live_109_6 : C.live 109 6 = some [] := by kernel_rfl
@[go_sem] theorem live_109_7 : C.live 109 7 = some [0, 1] := by kernel_rfl
@[go_sem] theorem live_109_8 : C.live 109 8 = some [] := by kernel_rfl
@[go_sem] theorem live_109_9 : C.live 109 9 = some [] := by kernel_rfl
@[go_sem] theorem esc_110 : C.esc 110 = [] := by kernel_rfl
@[go_sem] theorem live_110_0 : C.live 110 0 = some [0, 1] := by kernel_rfl
@[go_sem] theorem live_110_1 : C.live 110 1 = some [0, 1] := by kernel_rfl
@[go_sem] theorem live_110_2 : C.live 110 2 = some [7, 1, 0, 8] := by kernel_rfl
@[go_sem] theorem live_110_3 : C.live 110 3 = some [7, 1, 0, 8] := by kernel_rfl
@[go_sem] theorem live_110_4 : C.live 110 4 = some [7, 1, 0, 8, 5] := by kernel_rfl
@[go_sem] theorem live_110_5 : C.live 110 5 = some [5] := by kernel_rfl
@[go_sem] theorem live_110_6 : C.live 110 6 = some [8, 0, 1, 7] := by kernel_rfl
@[go_sem] theorem live_110_7 : C.live 110 7 = some [] := by kernel_rfl
@[go_sem] theorem esc_111 : C.esc 111 = [] := by kernel_rfl
@[go_sem] theorem live_111_0 : C.live 111 0 = some [0, 1] := by kernel_rfl
@[go_sem] theorem live_111_1 : C.live 111 1 = some [1, 2] := by kernel_rfl
@[go_sem] theorem live_111_2 : C.live 111 2 = some [1, 2, 5] := by kernel_rfl
@[go_sem] theorem live_111_3 : C.live 111 3 = some [5] := by kernel_rfl
@[go_sem] theorem live_111_4 : C.live 111 4 = some [2, 1] := by kernel_rfl
@[go_sem] theorem live_111_5 : C.live 111 5 = some [17, 16, 1, 18] := by kernel_rfl
@[go_sem] theorem live_111_6 : C.live 111 6 = some [17, 16, 1, 18] := by kernel_rfl
@[go_sem] theorem live_111_7 : C.live 111 7 = some [7, 17, 16, 1, 18] := by kernel_rfl
@[go_sem] theorem live_111_8 : C.live 111 8 = some [17, 16, 1, 18, 8] := by kernel_rfl
@[go_sem] theorem live_111_9 : C.live 111 9 = some [8] := by kernel_rfl
@[go_sem] theorem live_111_10 : C.live 111 10 = some [18, 1, 16, 17] := by kernel_rfl
@[go_sem] theorem live_111_11 : C.live 111 11 = some [] := by kernel_rfl
@[go_sem] theorem esc_112 : C.esc 112 = [] := by kernel_rfl
@[go_sem] theorem live_112_0 : C.live 112 0 = some [0, 1] := by kernel_rfl
@[go_sem] theorem live_112_1 : C.live 112 1 = some [1, 2] := by kernel_rfl
@[go_sem] theorem live_112_2 : C.live 112 2 = some [1, 2] := by kernel_rfl
@[go_sem] theorem live_112_3 : C.live 112 3 = some [7, 6] := by kernel_rfl
@[go_sem] theorem live_112_5 : C.live 112 5 = some [6] := by kernel_rfl
@[go_sem] theorem live_112_6 : C.live 112 6 = some [] := by kernel_rfl
@[go_sem] theorem live_112_4 : C.live 112 4 = some [] := by kernel_rfl
@[go_sem] theorem live_112_7 : C.live 112 7 = some [6] := by kernel_rfl
@[go_sem] theorem live_112_8 : C.live 112 8 = some [1, 2] := by kernel_rfl
@[go_sem] theorem live_112_9 : C.live 112 9 = some [8, 1, 2] := by kernel_rfl
@[go_sem] theorem live_112_10 : C.live 112 10 = some [40, 2, 39, 1, 41, 8] := by kernel_rfl
@[go_sem] theorem live_112_11 : C.live 112 11 = some [40, 2, 39, 1, 41, 8] := by kernel_rfl
@[go_sem] theorem live_112_12 : C.live 112 12 = some [10, 40, 2, 39, 1, 41, 8] := by kernel_rfl
@[go_sem] theorem live_112_13 : C.live 112 13 = some [40, 2, 39, 1, 41, 11, 8, 12] := by kernel_rfl
@[go_sem] theorem live_112_14 : C.live 112 14 = some [12] := by kernel_rfl
@[go_sem] theorem live_112_15 : C.live 112 15 = some [8, 11, 41, 1, 39, 2, 40] := by kernel_rfl
@[go_sem] theorem live_112_16 : C.live 112 16 = some [41, 8, 1, 39, 2, 40] := by kernel_rfl
@[go_sem] theorem live_112_17 : C.live 112 17 = some [2, 8] := by kernel_rfl
@[go_sem] theorem live_112_18 : C.live 112 18 = some [2, 8] := by kernel_rfl
@[go_sem] theorem live_112_19 : C.live 112 19 = some [] := by kernel_rfl
@[go_sem] theorem live_112_20 : C.live 112 20 = some [] := by kernel_rfl
@[go_sem] theorem live_112_21 : C.live 112 21 = some [2, 8] := by kernel_rfl
@[go_sem] theorem live_112_22 : C.live 112 22 = some [8, 13, 14] := by kernel_rfl
@[go_sem] theorem live_112_23 : C.live 112 23 = some [90, 14, 89, 13, 91] := by kernel_rfl
@[go_sem] theorem live_112_24 : C.live 112 24 = some [90, 14, 89, 13, 91] := by kernel_rfl
@[go_sem] theorem live_112_25 : C.live 112 25 = some [16, 90, 14, 89, 13, 91] := by kernel_rfl
@[go_sem] theorem live_112_26 : C.live 112 26 = some [] := by kernel_rfl
@[go_sem] theorem live_112_27 : C.live 112 27 = some [91, 13, 89, 14, 90] := by kernel_rfl
@[go_sem] theorem live_112_28 : C.live 112 28 = some [14] := by kernel_rfl
@[go_sem] theorem esc_113 : C.esc 113 = [] := by kernel_rfl
@[go_sem] theorem live_113_0 : C.live 113 0 = some [0] := by kernel_rfl
@[go_sem] theorem live_113_1 : C.live 113 1 = some [0] := by kernel_rfl
@[go_sem] theorem live_113_2 : C.live 113 2 = some [] := by kernel_rfl
@[go_sem] theorem live_113_3 : C.live 113 3 = some [0] := by kernel_rfl
@[go_sem] theorem live_113_4 : C.live 113 4 = some [0, 3] := by kernel_rfl
@[go_sem] theorem live_113_6 : C.live 113 6 = some [0, 3] := by kernel_rfl
@[go_sem] theorem live_113_7 : C.live 113 7 = some [] := by kernel_rfl
@[go_sem] theorem live_113_5 : C.live 113 5 = some [3, 0] := by kernel_rfl
@[go_sem] theorem live_113_8 : C.live 113 8 = some [] := by kernel_rfl
@[go_sem] theorem esc_114 : C.esc 114 = [] := by kernel_rfl
@[go_sem] theorem live_114_0 : C.live 114 0 = some [0, 1] := by kernel_rfl
@[go_sem] theorem live_114_1 : C.live 114 1 = some [2, 1] := by kernel_rfl
@[go_sem] theorem live_114_2 : C.live 114 2 = some [2, 5, 1] := by kernel_rfl
@[go_sem] theorem live_114_4 : C.live 114 4 = some [1, 5, 2] := by kernel_rfl
@[go_sem] theorem live_114_6 : C.live 114 6 = some [2, 5, 1] := by kernel_rfl
@[go_sem] theorem live_114_8 : C.live 114 8 = some [1] := by kernel_rfl
@[go_sem] theorem live_114_9 : C.live 114 9 = some [] := by kernel_rfl
@[go_sem] theorem live_114_7 : C.live 114 7 = some [] := by kernel_rfl
@[go_sem] theorem live_114_5 : C.live 114 5 = some [] := by kernel_rfl
@[go_sem] theorem live_114_3 : C.live 114 3 = some [] := by kernel_rfl
@[go_sem] theorem live_114_10 : C.live 114 10 = some [] := by kernel_rfl
@[go_sem] theorem esc_115 : C.esc 115 = [] := by kernel_rfl
@[go_sem] theorem live_115_0 : C.live 115 0 = some [1, 0] := by kernel_rfl
@[go_sem] theorem live_115_1 : C.live 115 1 = some [1, 0] := by kernel_rfl
@[go_sem] theorem esc_116 : C.esc 116 = [] := by kernel_rfl
@[go_sem] theorem live_116_0 : C.live 116 0 = some [0] := by kernel_rfl
@[go_sem] theorem live_116_1 : C.live 116 1 = some [0] := by kernel_rfl
@[go_sem] theorem live_116_2 : C.live 116 2 = some [4] := by kernel_rfl
@[go_sem] theorem live_116_3 : C.live 116 3 = some [4] := by kernel_rfl
@[go_sem] theorem live_116_4 : C.live 116 4 = some [4] := by kernel_rfl
@[go_sem] theorem live_116_5 : C.live 116 5 = some [4] := by kernel_rfl
@[go_sem] theorem live_116_6 : C.live 116 6 = some [4] := by kernel_rfl
@[go_sem] theorem live_116_7 : C.live 116 7 = some [4] := by kernel_rfl
@[go_sem] theorem live_116_8 : C.live 116 8 = some [4] := by kernel_rfl
@[go_sem] theorem live_116_9 : C.live 116 9 = some [4] := by kernel_rfl
@[go_sem] theorem live_116_10 : C.live 116 10 = some [4] := by kernel_rfl
@[go_sem] theorem live_116_11 : C.live 116 11 = some [4] := by kernel_rfl
@[go_sem] theorem live_116_13 : C.live 116 13 = some [4] := by kernel_rfl
@[go_sem] theorem live_116_14 : C.live 116 14 = some [4] := by kernel_rfl
@[go_sem] theorem live_116_15 : C.live 116 15 = some [4] := by kernel_rfl
@[go_sem] theorem live_116_17 : C.live 116 17 = some [4] := by kernel_rfl
@[go_sem] theorem live_116_18 : C.live 116 18 = some [4] := by kernel_rfl
@[go_sem] theorem live_116_19 : C.live 116 19 = some [4] := by kernel_rfl
@[go_sem] theorem live_116_21 : C.live 116 21 = some [4] := by kernel_rfl
@[go_sem] theorem live_116_23 : C.live 116 23 = some [4] := by kernel_rfl
@[go_sem] theorem live_116_24 : C.live 116 24 = some [4] := by kernel_rfl
@[go_sem] theorem live_116_25 : C.live 116 25 = some [] := by kernel_rfl
@[go_sem] theorem live_116_22 : C.live 116 22 = some [] := by kernel_rfl
@[go_sem] theorem live_116_20 : C.live 116 20 = some [] := by kernel_rfl
@[go_sem] theorem live_116_16 : C.live 116 16 = some [] := by kernel_rfl
@[go_sem] theorem live_116_12 : C.live 116 12 = some [] := by kernel_rfl
@[go_sem] theorem live_116_26 : C.live 116 26 = some [] := by kernel_rfl
@[go_sem] theorem esc_117 : C.esc 117 = [] := by kernel_rfl
@[go_sem] theorem live_117_0 : C.live 117 0 = some [0] := by kernel_rfl
@[go_sem] theorem live_117_1 : C.live 117 1 = some [0] := by kernel_rfl
@[go_sem] theorem live_117_3 : C.live 117 3 = some [0] := by kernel_rfl
@[go_sem] theorem live_117_5 : C.live 117 5 = some [0] := by kernel_rfl
@[go_sem] theorem live_117_6 : C.live 117 6 = some [] := by kernel_rfl
@[go_sem] theorem live_117_4 : C.live 117 4 = some [] := by kernel_rfl
@[go_sem] theorem live_117_2 : C.live 117 2 = some [] := by kernel_rfl
@[go_sem] theorem live_117_7 : C.live 117 7 = some [] := by kernel_rfl
@[go_sem] theorem esc_118 : C.esc 118 = [] := by kernel_rfl
@[go_sem] theorem live_118_0 : C.live 118 0 = some [0] := by kernel_rfl
@[go_sem] theorem live_118_1 : C.live 118 1 = some [0] := by kernel_rfl
@[go_sem] theorem live_118_2 : C.live 118 2 = some [0, 3] := by kernel_rfl
@[go_sem] theorem live_118_4 : C.live 118 4 = some [0, 3] := by kernel_rfl
@[go_sem] theorem live_118_5 : C.live 118 5 = some [] := by kernel_rfl
@[go_sem] theorem live_118_3 : C.live 118 3 = some [3, 0] := by kernel_rfl
@[go_sem] theorem live_118_6 : C.live 118 6 = some [0] := by kernel_rfl
@[go_sem] theorem kind_25 : kindT Try.prog 25 = some (3, true) := by kernel_rfl
@[go_sem] theorem bool_32 : boolT Try.prog 32 = false := by kernel_rfl
@[go_sem] theorem field_25_2 : fieldT Try.prog 25 2 = some (2, 1, false) := by kernel_rfl
@[go_sem] theorem kind_23 : kindT Try.prog 23 = some (1, false) := by kernel_rfl
@[go_sem] theorem len_29 : lenT Try.prog 29 = 2 := by kernel_rfl
@[go_sem] theorem bool_3 : boolT Try.prog 3 = false := by kernel_rfl
@[go_sem] theorem bool_4 : boolT Try.prog 4 = true := by kernel_rfl
@[go_sem] theorem len_9 : lenT Try.prog 9 = 1 := by kernel_rfl
@[go_sem] theorem zero_25 : zeroT Try.prog 25 = some (.agg [.d (.str []), .nilS, .nilS]) := by kernel_rfl
@[go_sem] theorem arr_29 : arrT Try.prog 29 = none := by kernel_rfl
@[go_sem] theorem elem_29 : elemT Try.prog 29 = some (9, 1) := by kernel_rfl
@[go_sem] theorem kind_9 : kindT Try.prog 9 = some (1, false) := by kernel_rfl
@[go_sem] theorem bool_9 : boolT Try.prog 9 = false := by kernel_rfl
@[go_sem] theorem len_38 : lenT Try.prog 38 = 2 := by kernel_rfl
@[go_sem] theorem arr_38 : arrT Try.prog 38 = none := by kernel_rfl
@[go_sem] theorem elem_38 : elemT Try.prog 38 = some (46, 20) := by kernel_rfl
@[go_sem] theorem field_46_1 : fieldT Try.prog 46 1 = some (1, 13, true) := by kernel_rfl
@[go_sem] theorem kind_44 : kindT Try.prog 44 = some (13, true) := by kernel_rfl
@[go_sem] theorem zero_44 : zeroT Try.prog 44 = some (.agg [.d (.int .i64 0), .d (.str []), .d (.int .i64 0), .d (.int .i64 0), .d (.int .i64 0), .d (.str []), .nilS, .d (.int .i64 0), .d (.int .i64 0), .d (.str []), .nilS, .nilS, .nilS]) := by kernel_rfl
@[go_sem] theorem field_44_0 : fieldT Try.prog 44 0 = some (0, 1, false) := by kernel_rfl
@[go_sem] theorem kind_3 : kindT Try.prog 3 = some (1, false) := by kernel_rfl
@[go_sem] theorem field_44_1 : fieldT Try.prog 44 1 = some (1, 1, false) := by kernel_rfl
@[go_sem] theorem zero_9 : zeroT Try.prog 9 = some (.d (.str [])) := by kernel_rfl
@[go_sem] theorem room_9_1 : aroomT Try.prog 9 1 = true := by kernel_rfl
@[go_sem] theorem field_25_1 : fieldT Try.prog 25 1 = some (1, 1, false) := by kernel_rfl
@[go_sem] theorem kind_22 : kindT Try.prog 22 = some (1, false) := by kernel_rfl
@[go_sem] theorem len_22 : lenT Try.prog 22 = 2 := by kernel_rfl
@[go_sem] theorem arr_22 : arrT Try.prog 22 = none := by kernel_rfl
@[go_sem] theorem elem_22 : elemT Try.prog 22 = some (49, 2) := by kernel_rfl
@[go_sem] theorem field_49_0 : fieldT Try.prog 49 0 = some (0, 1, false) := by kernel_rfl
@[go_sem] theorem field_44_3 : fieldT Try.prog 44 3 = some (3, 4, true) := by kernel_rfl
@[go_sem] theorem kind_42 : kindT Try.prog 42 = some (4, true) := by kernel_rfl
@[go_sem] theorem zero_42 : zeroT Try.prog 42 = some (.agg [.d (.int .i64 0), .d (.int .i64 0), .d (.str []), .nilS]) := by kernel_rfl
@[go_sem] theorem field_46_0 : fieldT Try.prog 46 0 = some (0, 1, false) := by kernel_rfl
@[go_sem] theorem kind_4 : kindT Try.prog 4 = some (1, false) := by kernel_rfl
@[go_sem] theorem field_46_3 : fieldT Try.prog 46 3 = some (15, 4, true) := by kernel_rfl
@[go_sem] theorem field_42_0 : fieldT Try.prog 42 0 = some (0, 1, false) := by kernel_rfl
@[go_sem] theorem field_42_3 : fieldT Try.prog 42 3 = some (3, 1, false) := by kernel_rfl
@[go_sem] theorem kind_40 : kindT Try.prog 40 = some (1, false) := by kernel_rfl
@[go_sem] theorem arr_40 : arrT Try.prog 40 = none := by kernel_rfl
@[go_sem] theorem elem_40 : elemT Try.prog 40 = some (42, 4) := by kernel_rfl
@[go_sem] theorem field_42_2 : fieldT Try.prog 42 2 = some (2, 1, false) := by kernel_rfl
@[go_sem] theorem field_25_0 : fieldT Try.prog 25 0 = some (0, 1, false) := by kernel_rfl
@[go_sem] theorem fields_42 : fieldsT Try.prog 42 = some [(0, 1), (1, 1), (2, 1), (3, 1)] := by kernel_rfl
@[go_sem] theorem fields_44 : fieldsT Try.prog 44 = some [(0, 1), (1, 1), (2, 1), (3, 4), (7, 4), (11, 1), (12, 1)] := by kernel_rfl
@[go_sem] theorem elem_23 : elemT Try.prog 23 = some (44, 13) := by kernel_rfl
@[go_sem] theorem fields_25 : fieldsT Try.prog 25 = some [(0, 1), (1, 1), (2, 1)] := by kernel_rfl
@[go_sem] theorem zero_49 : zeroT Try.prog 49 = some (.agg [.d (.str []), .d (.int .i64 0)]) := by kernel_rfl
@[go_sem] theorem fields_49 : fieldsT Try.prog 49 = some [(0, 1), (1, 1)] := by kernel_rfl
@[go_sem] theorem field_58_1 : fieldT Try.prog 58 1 = some (3, 1, false) := by kernel_rfl
@[go_sem] theorem kind_56 : kindT Try.prog 56 = some (1, false) := by kernel_rfl
@[go_sem] theorem map_56 : mapT Try.prog 56 = some (2, 4) := by kernel_rfl
@[go_sem] theorem zero_4 : zeroT Try.prog 4 = some (.d (.bool false)) := by kernel_rfl
@[go_sem] theorem zero_60 : zeroT Try.prog 60 = some (.agg [.nilS, .nilS]) := by kernel_rfl
@[go_sem] theorem field_49_1 : fieldT Try.prog 49 1 = some (1, 1, false) := by kernel_rfl
@[go_sem] theorem kind_60 : kindT Try.prog 60 = some (2, true) := by kernel_rfl
@[go_sem] theorem len_23 : lenT Try.prog 23 = 2 := by kernel_rfl
@[go_sem] theorem arr_23 : arrT Try.prog 23 = none := by kernel_rfl
@[go_sem] theorem field_44_4 : fieldT Try.prog 44 4 = some (7, 4, true) := by kernel_rfl
@[go_sem] theorem field_44_5 : fieldT Try.prog 44 5 = some (11, 1, false) := by kernel_rfl
@[go_sem] theorem field_44_6 : fieldT Try.prog 44 6 = some (12, 1, false) := by kernel_rfl
@[go_sem] theorem len_40 : lenT Try.prog 40 = 2 := by kernel_rfl
@[go_sem] theorem room_49_2 : aroomT Try.prog 49 2 = true := by kernel_rfl
@[go_sem] theorem zero_58 : zeroT Try.prog 58 = some (.agg [.d (.str []), .nilS, .nilS, .nilM]) := by kernel_rfl
@[go_sem] theorem fields_58 : fieldsT Try.prog 58 = some [(0, 3), (3, 1)] := by kernel_rfl
@[go_sem] theorem len_56 : lenT Try.prog 56 = 3 := by kernel_rfl
@[go_sem] theorem zero_29 : zeroT Try.prog 29 = some (.nilS) := by kernel_rfl
@[go_sem] theorem kind_49 : kindT Try.prog 49 = some (2, true) := by kernel_rfl
@[go_sem] theorem kind_29 : kindT Try.prog 29 = some (1, false) := by kernel_rfl
@[go_sem] theorem field_46_2 : fieldT Try.prog 46 2 = some (14, 1, false) := by kernel_rfl
@[go_sem] theorem field_60_0 : fieldT Try.prog 60 0 = some (0, 1, false) := by kernel_rfl
@[go_sem] theorem field_60_1 : fieldT Try.prog 60 1 = some (1, 1, false) := by kernel_rfl
@[go_sem] theorem field_46_4 : fieldT Try.prog 46 4 = some (19, 1, false) := by kernel_rfl
@[go_sem] theorem room_42_4 : aroomT Try.prog 42 4 = true := by kernel_rfl
@[go_sem] theorem str_9 : strT Try.prog 9 = true := by kernel_rfl
@[go_sem] theorem arr_9 : arrT Try.prog 9 = none := by kernel_rfl
@[go_sem] theorem room_44_13 : aroomT Try.prog 44 13 = true := by kernel_rfl
@[go_sem] theorem zero_46 : zeroT Try.prog 46 = some (.agg [.d (.bool false), .d (.int .i64 0), .d (.str []), .d (.int .i64 0), .d (.int .i64 0), .d (.int .i64 0), .d (.str []), .nilS, .d (.int .i64 0), .d (.int .i64 0), .d (.str []), .nilS, .nilS, .nilS, .d (.int .i64 0), .d (.int .i64 0), .d (.int .i64 0), .d (.str []), .nilS, .d (.bool false)]) := by kernel_rfl
@[go_sem] theorem fields_46 : fieldsT Try.prog 46 = some [(0, 1), (1, 13), (14, 1), (15, 4), (19, 1)] := by kernel_rfl
@[go_sem] theorem room_46_20 : aroomT Try.prog 46 20 = true := by kernel_rfl
@[go_sem] theorem map_72 : mapT Try.prog 72 = some (2, 3) := by kernel_rfl
@[go_sem] theorem zero_3 : zeroT Try.prog 3 = some (.d (.int .i64 0)) := by kernel_rfl
@[go_sem] theorem zero_95 : zeroT Try.prog 95 = some (.agg [.nilM, .nilM, .nilM]) := by kernel_rfl
@[go_sem] theorem fields_95 : fieldsT Try.prog 95 = some [(0, 1), (1, 1), (2, 1)] := by kernel_rfl
@[go_sem] theorem field_95_2 : fieldT Try.prog 95 2 = some (2, 1, false) := by kernel_rfl
@[go_sem] theorem kind_72 : kindT Try.prog 72 = some (1, false) := by kernel_rfl
@[go_sem] theorem zero_99 : zeroT Try.prog 99 = some (.agg [.d (.int .i64 0), .nilF, .nilF]) := by kernel_rfl
@[go_sem] theorem fields_99 : fieldsT Try.prog 99 = some [(0, 1), (1, 1), (2, 1)] := by kernel_rfl
@[go_sem] theorem field_99_0 : fieldT Try.prog 99 0 = some (0, 1, false) := by kernel_rfl
@[go_sem] theorem field_44_2 : fieldT Try.prog 44 2 = some (2, 1, false) := by kernel_rfl
@[go_sem] theorem kind_54 : kindT Try.prog 54 = some (1, false) := by kernel_rfl
@[go_sem] theorem bool_5 : boolT Try.prog 5 = false := by kernel_rfl
@[go_sem] theorem field_42_1 : fieldT Try.prog 42 1 = some (1, 1, false) := by kernel_rfl
@[go_sem] theorem kind_2 : kindT Try.prog 2 = some (1, false) := by kernel_rfl
@[go_sem] theorem bool_2 : boolT Try.prog 2 = false := by kernel_rfl
@[go_sem] theorem zero_32 : zeroT Try.prog 32 = some (.d (.int .i64 0)) := by kernel_rfl
@[go_sem] theorem kind_32 : kindT Try.prog 32 = some (1, false) := by kernel_rfl
@[go_sem] theorem field_95_0 : fieldT Try.prog 95 0 = some (0, 1, false) := by kernel_rfl
@[go_sem] theorem field_99_1 : fieldT Try.prog 99 1 = some (1, 1, false) := by kernel_rfl
@[go_sem] theorem kind_77 : kindT Try.prog 77 = some (1, false) := by kernel_rfl
@[go_sem] theorem conv_5_21 : convT Try.prog 5 21 = some .i32 := by kernel_rfl
@[go_sem] theorem str_5 : strT Try.prog 5 = false := by kernel_rfl
@[go_sem] theorem str_21 : strT Try.prog 21 = false := by kernel_rfl
@[go_sem] theorem str_22 : strT Try.prog 22 = false := by kernel_rfl
@[go_sem] theorem zero_118 : zeroT Try.prog 118 = some (.agg [.d (.bool false), .d (.bool false), .d (.bool false), .d (.bool false), .d (.bool false), .d (.bool false)]) := by kernel_rfl
@[go_sem] theorem kind_118 : kindT Try.prog 118 = some (6, true) := by kernel_rfl
@[go_sem] theorem field_118_0 : fieldT Try.prog 118 0 = some (0, 1, false) := by kernel_rfl
@[go_sem] theorem field_118_1 : fieldT Try.prog 118 1 = some (1, 1, false) := by kernel_rfl
@[go_sem] theorem field_118_2 : fieldT Try.prog 118 2 = some (2, 1, false) := by kernel_rfl
@[go_sem] theorem field_95_1 : fieldT Try.prog 95 1 = some (1, 1, false) := by kernel_rfl
@[go_sem] theorem field_99_2 : fieldT Try.prog 99 2 = some (2, 1, false) := by kernel_rfl
@[go_sem] theorem kind_78 : kindT Try.prog 78 = some (1, false) := by kernel_rfl
@[go_sem] theorem bool_21 : boolT Try.prog 21 = false := by kernel_rfl
@[go_sem] theorem fields_118 : fieldsT Try.prog 118 = some [(0, 1), (1, 1), (2, 1), (3, 1), (4, 1), (5, 1)] := by kernel_rfl
@[go_sem] theorem field_118_3 : fieldT Try.prog 118 3 = some (3, 1, false) := by kernel_rfl
@[go_sem] theorem field_118_4 : fieldT Try.prog 118 4 = some (4, 1, false) := by kernel_rfl
@[go_sem] theorem field_118_5 : fieldT Try.prog 118 5 = some (5, 1, false) := by kernel_rfl
@[go_sem] theorem elem_129 : elemT Try.prog 129 = some (3, 1) := by kernel_rfl
@[go_sem] theorem room_3_1 : aroomT Try.prog 3 1 = true := by kernel_rfl
@[go_sem] theorem arr_129 : arrT Try.prog 129 = none := by kernel_rfl
@[go_sem] theorem len_129 : lenT Try.prog 129 = 2 := by kernel_rfl
attribute [go_sem] List.getElem?_toArray List.getElem?_cons_zero List.getElem?_cons_succ List.length_cons List.length_nil List.take_succ_cons List.take_zero List.drop_succ_cons List.drop_zero List.drop_nil List.take_nil List.nil_append List.cons_append List.append_nil List.contains_cons List.contains_nil Bool.or_false Bool.false_or Bool.or_true Bool.true_or Bool.and_true Bool.true_and Bool.and_false Bool.false_and Bool.not_true Bool.not_false Bool.not_not Option.isSome_some Option.isSome_none List.map_cons List.map_nil ite_not not_true_eq_false not_false_eq_true Nat.zero_add Nat.add_zero
end Go.Proofs.Ytdcmimpjmngdlaa
