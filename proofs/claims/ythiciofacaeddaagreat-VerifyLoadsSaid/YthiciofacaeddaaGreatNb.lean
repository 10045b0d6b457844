/-
 The machine's settings over this seat's program. Printed by program.
 What the machine of values takes for known is so; what it asks of the program's functions. Printed by program.
-/
import Derived.Test.YthiciofacaeddaaGreatNa
section
namespace Go.Proofs.YthiciofacaeddaaGreat
open Go Go.Sim
set_option maxRecDepth 100000
set_option linter.unusedVariables false
set_option linter.unusedSimpArgs false
def modeT (f : Nat) : Sim.Mode :=
 match f with
 | 86 => .own
 | 142 => .live
 | 174 => .heap
 | 143 => .heap
 | 162 => .heap
 | 163 => .heap
 | 116 => .own
 | 161 => .live
 | 173 => .live
 | 164 => .own
 | 120 => .own
 | 84 => .own
 | 182 => .heap
 | 160 => .heap
 | 184 => .heap
 | 187 => .heap
 | 196 => .heap
 | 199 => .heap
 | 222 => .heap
 | 220 => .heap
 | 221 => .heap
 | 197 => .heap
 | 158 => .own
 | 26 => .own
 | 183 => .pure
 | 219 => .pure
 | 110 => .live
 | 112 => .inl
 | 115 => .own
 | 59 => .own
 | 57 => .own
 | 58 => .own
 | 21 => .own
 | 54 => .own
 | 55 => .own
 | 16 => .own
 | 25 => .heap
 | 71 => .heap
 | 72 => .heap
 | 20 => .heap
 | 22 => .own
 | 68 => .own
 | 126 => .heap
 | 30 => .own
 | 33 => .own
 | 74 => .own
 | 13 => .inl
 | 15 => .heap
 | 48 => .heap
 | 49 => .heap
 | 50 => .heap
 | 17 => .own
 | _ => .pure
def fgs (l : List Nat) : List Hint := l.map .forget
def hintT (f r : Nat) : List Hint :=
 match f, r with
 | 9, 4 => fgs [4, 47, 48, 49, 50, 51, 52, 53, 54, 55, 56, 57, 58, 59, 60, 61, 62, 63, 64, 65, 66]
 | 9, 9 => fgs [4, 7, 8, 67, 68, 69, 70, 71, 72, 73, 74, 75, 76, 77, 78, 79, 80, 81, 82, 83, 84, 85, 86, 87, 88, 89, 90, 91, 92, 93, 94, 95, 96, 97, 98, 99, 100, 101, 102, 103, 104, 105]
 | 11, 2 => fgs [4, 5, 7, 16, 17, 18, 19, 20, 21, 22, 23, 24, 25]
 | 16, 3 => .promote 3 1 :: fgs [6, 7, 8, 9, 10, 11, 12, 13, 14, 15, 16, 17, 18]
 | 16, 7 => .promote 3 1 :: fgs [19, 20, 21, 22, 23, 24, 25, 26, 27]
 | 19, 4 => fgs [4, 13, 14, 15, 16, 17, 18, 19, 20, 21, 22, 23, 24, 25, 26, 27]
 | 19, 9 => fgs [4, 28, 29, 30, 31, 32, 33, 34, 35, 36, 37, 38, 39, 40, 41]
 | 20, 1 => fgs [3, 4, 5, 6, 7, 8, 9, 10, 11, 12, 13]
 | 23, 12 => fgs [57, 58, 59, 60, 61, 62, 63, 64, 65, 66, 67, 68, 69, 70, 71, 72, 73, 74, 75, 76, 77, 78, 79, 80, 81, 82]
 | 29, 4 => fgs [4, 43, 44, 45, 46, 47, 48, 49, 50, 51, 52, 53, 54, 55, 56, 57, 58, 59, 60, 61, 62, 63, 64, 65, 66, 67, 68, 69, 70, 71, 72, 73, 74, 75, 76, 77]
 | 29, 9 => fgs [4, 78, 79, 80, 81, 82, 83, 84, 85, 86, 87, 88, 89, 90, 91, 92, 93, 94, 95]
 | 29, 14 => fgs [4, 96, 97, 98, 99, 100, 101, 102, 103, 104, 105, 106, 107, 108, 109, 110, 111, 112, 113]
 | 29, 19 => fgs [4, 114, 115, 116, 117, 118, 119, 120, 121, 122, 123, 124, 125, 126, 127, 128, 129, 130, 131, 132, 133, 134, 135, 136, 137, 138, 139, 140, 141, 142, 143, 144, 145, 146, 147, 148]
 | 32, 4 => fgs [4, 11, 12, 13, 14, 15, 16, 17, 18, 19, 20, 21, 22, 23, 24, 25]
 | 39, 4 => fgs [5, 10, 11, 12, 13, 14, 15, 16, 17, 18, 19, 20, 21, 22, 23, 24, 25, 26, 27, 28, 29, 30, 31, 32, 33, 34, 35, 36, 37, 38, 39, 40, 41, 42, 43, 44, 45, 46, 47]
 | 44, 5 => fgs [6, 30, 31, 32, 33, 34, 35, 36, 37, 38, 39, 40, 41, 42, 43, 44, 45, 46, 47, 48, 49]
 | 53, 10 => .promote 9 1 :: fgs [11, 12, 44, 45, 46, 47, 48, 49, 50, 51, 52, 53, 54, 55, 56, 57, 58, 59, 60, 61, 62]
 | 53, 23 => .promoteBox 14 1 1 :: fgs [113, 114, 115, 116, 117, 118, 119, 120, 121, 122, 123, 124, 125, 126, 127, 128, 129, 130]
 | 56, 4 => fgs [2, 4, 5, 15, 16, 17, 18, 19, 20, 21, 22, 23]
 | 56, 17 => fgs [2, 6, 51, 52, 53, 54, 55, 56, 57, 58]
 | 58, 8 => fgs [6, 7, 8, 13, 14, 15, 45, 46, 47, 48, 49, 50, 51, 52, 53, 54, 55, 56, 57, 58, 59, 60, 61, 62, 63, 64, 65, 66, 67, 68, 69, 70]
 | 58, 18 => fgs [6, 7, 8, 18, 19, 84, 85, 86, 87, 88, 89, 90, 91, 92, 93, 94]
 | 60, 5 => fgs [11, 12, 13, 14, 15, 16, 17, 18, 19, 20, 21, 22, 23]
 | 61, 9 => fgs [10, 40, 41, 42, 43, 44, 45, 46, 47, 48, 49, 50, 51, 52, 53, 54, 55, 56, 57, 58, 59]
 | 61, 16 => .promote 12 1 :: fgs [14, 71, 72, 73, 74, 75, 76, 77, 78, 79, 80]
 | 61, 25 => .promote 16 1 :: fgs [18, 102, 103, 104, 105, 106, 107, 108, 109, 110, 111, 112, 113]
 | 61, 31 => .promote 16 1 :: fgs [20, 125, 126, 127, 128, 129, 130, 131]
 | 62, 3 => fgs [6, 10, 11, 12, 13, 14, 15, 16, 17, 18, 19, 20, 21, 22]
 | 63, 4 => fgs [2, 4, 9, 10, 11, 12, 13, 14, 15, 16, 17, 18, 19, 20, 21, 22, 23, 24]
 | 64, 7 => fgs [6, 7, 10, 35, 36, 37, 38, 39, 40, 41, 42, 43, 44, 45, 46, 47]
 | 64, 13 => fgs [6, 7, 48, 49, 50, 51, 52, 53, 54, 55, 56, 57, 58, 59, 60, 61, 62, 63, 64, 65, 66, 67, 68, 69, 70, 71, 72, 73, 74, 75, 76, 77]
 | 64, 18 => fgs [6, 7, 14, 78, 79, 80, 81, 82, 83, 84, 85, 86, 87, 88, 89, 90, 91, 92, 93, 94, 95, 96, 97, 98, 99, 100, 101, 102, 103, 104]
 | 65, 6 => fgs [31, 32, 33, 34, 35, 36, 37, 38, 39]
 | 65, 12 => .promote 0 2 :: .promote 1 1 :: .promote 10 1 :: .promote 13 1 :: fgs [4, 5, 6, 7, 15, 16, 17, 42, 43, 44, 45, 46, 47, 48, 49, 50, 51, 52, 53, 54, 55, 56, 57, 58, 59, 60, 61, 62, 63, 64, 65, 66, 67, 68, 69]
 | 66, 3 => .promoteBox 3 0 2 :: fgs [8, 9, 10, 11, 12, 13, 14, 15, 16, 17, 18, 19, 20, 21, 22, 23, 24]
 | 66, 7 => .promoteBox 3 1 1 :: fgs [25, 26, 27, 28, 29, 30, 31, 32, 33, 34, 35, 36, 37, 38, 39, 40, 41]
 | 66, 11 => .promoteBox 3 2 1 :: fgs [42, 43, 44, 45, 46, 47, 48, 49, 50, 51, 52, 53, 54, 55, 56, 57, 58]
 | 66, 15 => .promoteBox 3 5 2 :: fgs [59, 60, 61, 62, 63, 64, 65, 66, 67, 68, 69, 70, 71, 72, 73, 74, 75]
 | 67, 3 => fgs [17, 18, 19, 20, 21, 22, 23]
 | 68, 3 => .promote 3 4 :: fgs [5, 6, 7, 8, 9, 10, 11, 12, 13, 14, 15, 16, 17, 18, 19, 20, 21, 22, 23, 24, 25, 26, 27, 28, 29, 30, 31]
 | 74, 3 => .promote 3 4 :: fgs [4, 9, 10, 11, 12, 13, 14, 15, 16, 17]
 | 75, 8 => .canon 6 :: fgs [27, 28, 29, 30, 31, 32, 33, 34, 35, 36, 37, 38, 39, 40, 41, 42, 43, 44, 45, 46, 47, 48, 49, 50, 51, 52]
 | 76, 4 => fgs [6, 7, 8, 9, 10, 11, 12, 13, 14, 15, 16, 17, 18, 19, 20, 21, 22, 23]
 | 83, 16 => fgs [2, 3, 7, 8, 49, 50, 51, 52, 53, 54, 55, 56, 57, 58, 59, 60, 61, 62]
 | 84, 3 => .promote 3 2 :: fgs [5, 8, 9, 10, 11, 12, 13, 14, 15, 16, 17, 18, 19, 20, 21]
 | 87, 4 => [.promoteBox 5 0 2]
 | 89, 6 => .promote 5 1 :: fgs [13, 14, 15, 16, 17, 18, 19, 20, 21, 22, 23, 24, 25, 26]
 | 93, 3 => .promote 5 2 :: fgs [7, 8, 9, 10, 11, 12, 13, 14, 15, 16, 17, 18, 19, 20, 21, 22, 23, 24, 25, 26, 27, 28, 29, 30, 31, 32, 33, 34, 35, 36, 37, 38, 39, 40, 41, 42, 43, 44, 45, 46, 47, 48, 49, 50, 51, 52, 53, 54, 55, 56, 57]
 | 95, 5 => .promote 4 2 :: fgs [9, 10, 11, 12, 13, 14, 15, 16, 17, 18, 19, 20, 21, 22, 23, 24, 25, 26]
 | 96, 3 => .loose 6 :: .promote 6 2 :: fgs [4, 5, 13, 14, 15, 16, 17, 18, 19, 20, 21, 22, 23, 24, 25, 26, 27, 28, 29, 30, 31, 32, 33, 34, 35, 36, 37]
 | 97, 5 => .promote 6 1 :: fgs [14, 15, 16, 17, 18, 19, 20, 21, 22, 23, 24, 25, 26, 27, 28, 29, 30, 31]
 | 102, 3 => .promote 7 2 :: fgs [4, 5, 6, 9, 10, 11, 12, 13, 14, 15, 16, 17, 18, 19, 20, 21, 22, 23, 24, 25, 26, 27, 28, 29, 30, 31, 32, 33, 34, 35, 36, 37, 38, 39, 40, 41, 42, 43, 44, 45, 46, 47, 48, 49, 50, 51, 52, 53, 54, 55, 56, 57, 58, 59, 60, 61, 62, 63, 64, 65, 66, 67]
 | 109, 5 => .promote 5 1 :: fgs [2, 3, 4, 6, 7, 8, 15, 16, 17, 18, 19, 20, 21, 22, 23, 24, 25, 26, 27, 28, 29, 30, 31, 32, 33, 34, 35, 36, 37, 38, 39, 40]
 | 110, 3 => .promoteBox 3 0 4 :: .promoteBox 3 1 1 :: fgs [4, 5, 6, 12, 13, 14, 15, 16, 17, 18, 19, 20, 21, 22, 23, 24, 25, 26, 27, 28, 29, 30, 31, 32, 33, 34, 35, 36, 37, 38, 39, 40, 41, 42, 43, 44, 45, 46, 47, 48, 49, 50, 51, 52, 53, 54, 55, 56, 57, 58, 59]
 | 112, 2 => .promoteAll 0 2 1 :: fgs [4, 5, 6, 7, 11, 12, 13, 14, 15, 16, 17, 18, 19, 20, 21, 22, 23, 24, 25, 26, 27, 28, 29, 30, 31, 32, 33, 34, 35, 36, 37, 38, 39, 40, 41, 42, 43, 44, 45, 46, 47, 48, 49, 50, 51, 52, 53, 54, 55, 56, 57, 58, 59, 60, 61, 62, 63, 64, 65, 66, 67, 68, 69, 70, 71, 72, 73, 74, 75, 76, 77, 78, 79, 80, 81, 82, 83]
 | 115, 4 => [.promoteBox 7 0 1]
 | 116, 3 => fgs [5, 12, 13, 14, 15, 16, 17, 18, 19, 20, 21, 22]
 | 116, 11 => .promote 6 1 :: fgs [8, 28, 29, 30, 31, 32, 33, 34]
 | 117, 3 => .promote 3 1 :: fgs [5, 9, 10, 11, 12, 13, 14, 15]
 | 118, 3 => .promote 3 1 :: fgs [5, 9, 10, 11, 12, 13, 14, 15]
 | 119, 4 => .promote 7 2 :: fgs [4, 5, 9, 15, 16, 17, 18, 19, 20, 21, 22, 23, 24, 25, 26, 27, 28, 29, 30, 31]
 | 122, 4 => fgs [2, 4, 8, 9, 10, 11, 12, 13, 14, 15, 16, 17, 18, 19, 20, 21, 22, 23, 24, 25, 26, 27, 28, 29, 30, 31, 32, 33, 34, 35, 36, 37, 38, 39, 40]
 | 123, 5 => .promote 5 1 :: fgs [2, 3, 4, 7, 8, 9, 10, 14, 15, 16, 17, 18, 19, 20, 21, 22, 23, 24, 25, 26, 27, 28, 29, 30, 31, 32, 33, 34, 35, 36, 37, 38, 39, 40, 41, 42, 43, 44, 45, 46, 47, 48, 49, 50, 51, 52, 53, 54, 55, 56, 57, 58, 59]
 | 123, 14 => .promote 5 1 :: fgs [47, 48, 49, 50, 51, 52, 53, 54, 55, 56, 57, 58, 59]
 | 126, 7 => fgs [8, 9, 10, 15, 16, 17, 18, 19, 20, 21, 35, 36, 37, 38, 39, 40, 41, 42, 43, 44, 45, 46, 47, 48, 49, 50, 51, 52, 53, 54, 55, 56, 57, 58, 59, 60, 61, 62, 63, 64, 65, 66, 67, 68, 69, 70, 71, 72, 73, 74, 75, 76, 77, 78, 79, 80, 81, 82, 83, 84, 85, 86, 87, 88, 89, 90, 91, 92, 93, 94, 95, 96, 97, 98, 99, 100, 101, 102, 103, 104, 105, 106, 107, 108, 109, 110, 111, 112, 113, 114, 115, 116, 117, 118, 119, 120, 121, 122, 123, 124, 125, 126, 127, 128, 129]
 | 126, 23 => fgs [8, 9, 10, 21, 92, 93, 94, 95, 96, 97, 98, 99, 100, 101, 102, 103, 104, 105, 106, 107, 108, 109, 110, 111, 112, 113, 114, 115, 116, 117, 118, 119, 120, 121, 122, 123, 124, 125, 126, 127, 128]
 | 127, 2 => fgs [8, 9, 10, 11, 12, 13, 14, 15, 16, 17, 18, 19, 20, 21]
 | 130, 4 => .canon 6 :: fgs [18, 19, 20, 21, 22, 23, 24, 25, 26, 27, 28, 29, 30, 31, 32, 33]
 | 130, 9 => .canon 8 :: fgs [10, 34, 35, 36, 37, 38, 39, 40, 41, 42, 43, 44, 45, 46, 47, 48, 49, 50, 51, 52, 53, 54, 55, 56, 57, 58, 59]
 | 131, 3 => .promote 3 1 :: fgs [5, 6, 7, 8, 9, 10, 11, 12, 13, 14, 15, 16, 17, 18, 19, 20, 21, 22, 23, 24, 25, 26, 27, 28, 29, 30]
 | 131, 6 => .promote 3 1 :: fgs [12, 13, 14, 15, 16, 17, 18, 19, 20, 21, 22, 23, 24, 25, 26, 27, 28, 29, 30]
 | 138, 2 => fgs [2, 3, 4, 5, 6, 7, 8, 12, 13, 14, 15, 16, 17, 18, 19, 20, 21, 22, 23, 24, 25, 26, 27, 28, 29, 30, 31]
 | 138, 5 => fgs [2, 3, 4, 7, 8, 21, 22, 23, 24, 25, 26, 27, 28, 29, 30]
 | 139, 3 => fgs [5, 12, 13, 14, 15, 16, 17, 18, 19, 20, 21, 22]
 | 139, 11 => .promote 6 2 :: fgs [8, 28, 29, 30, 31, 32, 33, 34]
 | 145, 3 => fgs [5, 6, 7, 8, 9, 10, 11, 12]
 | 146, 3 => fgs [4, 7, 8, 9, 10, 11, 12, 13, 14, 15, 16, 17, 18, 19]
 | 150, 2 => fgs [2, 3, 4, 6, 7, 8, 9, 10, 11, 12, 13, 14, 15, 16, 17, 18, 19, 20, 21, 22, 23, 24, 25, 26, 27, 28]
 | 150, 5 => fgs [2, 3, 4, 13, 14, 15, 16, 17, 18, 19, 20, 21, 22, 23, 24, 25, 26, 27, 28]
 | 152, 4 => .promote 6 1 :: .promote 7 2 :: fgs [2, 3, 4, 5, 9, 10, 11, 12, 13, 14, 15, 16, 17, 18, 19, 20, 21, 22, 23, 24, 25, 26, 27, 28, 29, 30, 31, 32, 33, 34, 35, 36, 37, 38, 39, 40, 41, 42, 43, 44, 45]
 | 158, 8 => fgs [34, 35, 36, 37, 38, 39, 40, 41, 42, 43, 44, 45, 46]
 | 160, 4 => fgs [13, 14, 15, 17, 24, 25, 26, 27, 28, 29, 30, 31, 32, 33, 34, 35, 36, 37, 38, 39, 40, 41, 42, 43, 44, 45, 46, 47, 48, 49, 50, 51, 52, 53, 54, 55, 56, 57, 58, 59, 60, 61, 62, 63, 64, 65, 66, 67, 68, 69, 70, 71, 72, 73, 74, 75, 76, 77, 78, 79, 80, 81, 82, 83, 84, 85, 86, 87, 88, 89, 90, 91, 92, 93, 94, 95, 96, 97, 98, 99, 100, 101, 102, 103]
 | 160, 16 => fgs [17, 72, 73, 74, 75, 76, 77, 78, 79, 80, 81, 82, 83, 84, 85, 86, 87, 88, 89, 90, 91, 92, 93, 94, 95, 96, 97, 98, 99, 100, 101, 102, 103]
 | 162, 2 => .promote 0 1 :: fgs [5, 8, 9, 10, 11, 12, 13, 14, 15, 16, 17, 18, 19]
 | 163, 2 => .promote 0 1 :: fgs [5, 8, 9, 10, 11, 12, 13, 14, 15, 16, 17, 18, 19]
 | 167, 1 => fgs [5, 6, 7, 8, 9, 10, 11, 12, 13, 14, 15, 16]
 | 169, 3 => .promote 5 1 :: fgs [7, 8, 9, 10, 11, 12, 13, 14, 15, 16, 17, 18, 19, 20, 21, 22, 23, 24, 25, 26, 27, 28, 29, 30, 31]
 | 169, 7 => .promote 5 1 :: fgs [19, 20, 21, 22, 23, 24, 25, 26, 27, 28, 29, 30, 31]
 | 170, 5 => .promote 10 1 :: fgs [22, 23, 24, 25, 26, 27, 28, 29, 30, 31, 32, 33, 34, 35, 36, 37, 38, 39, 40, 41, 42, 43, 44, 45, 46, 47, 48, 49, 50, 51, 52]
 | 171, 3 => fgs [9, 13, 14, 15, 16, 17, 18, 19, 20, 21, 22, 23, 24, 25, 26, 27, 28, 29, 30]
 | 174, 2 => fgs [6, 7, 8, 9, 10, 11, 12, 13, 14, 15, 16, 17, 18, 19, 20, 21, 22, 23, 24, 25, 26, 27, 28, 29, 30, 31, 32, 33, 34, 35, 36, 37, 38, 39, 40]
 | 175, 8 => fgs [38, 39, 40, 41, 42, 43, 44, 45, 46, 47, 48, 49, 50, 51, 52, 53]
 | 178, 8 => fgs [32, 33, 34, 35, 36, 37, 38, 39, 40, 41, 42, 43, 44, 45]
 | 179, 3 => fgs [11, 12, 13, 14, 15, 16, 17, 18, 19, 20, 21, 22, 23, 24]
 | 182, 2 => fgs [3, 4, 13, 14, 15, 16, 17, 18, 19, 20, 21, 22]
 | 188, 3 => fgs [5, 6, 7, 8, 9, 10, 11, 12]
 | 190, 3 => .promote 7 1 :: fgs [9, 10, 11, 12, 13, 14, 15, 16, 17, 18, 19, 20, 21, 22, 23, 24, 25, 26, 27, 28, 29]
 | 191, 5 => fgs [13, 14, 15, 16, 17, 18, 19, 20, 21, 22, 23, 24, 25, 26]
 | 196, 2 => fgs [8, 9, 10, 12, 13, 14, 15, 16, 17, 18, 19, 20, 21, 22, 23, 24, 25, 26, 27, 28, 29, 30, 31, 32, 33, 34, 35, 36, 37, 38, 39, 40, 41, 42, 43, 44]
 | 197, 4 => fgs [2, 4, 5, 10, 11, 12, 13, 14, 15, 16, 17, 18, 19, 20, 21, 22, 23, 24, 25, 26, 27, 28, 29, 30, 31, 32, 33, 34, 35, 36, 37, 38, 39, 40, 41, 42, 43, 44, 45, 46, 47, 48, 49, 50, 51, 52, 53, 54, 55, 56, 57, 58, 59]
 | 197, 9 => fgs [29, 30, 31, 32, 33, 34, 35, 36, 37, 38, 39, 40, 41, 42, 43, 44, 45, 46, 47, 48, 49, 50, 51, 52, 53]
 | 199, 0 => fgs [4, 5, 6, 7, 8, 9, 10, 11, 12, 13, 14, 15, 16, 17, 18, 19, 20, 21, 22]
 | _, _ => []
noncomputable def knownT (f : Nat) : Option (List V → Heap → Option (V × Heap)) :=
 match f with
 | 105 => some (cloneWL 17592186044416 2)
 | 106 => some (cloneWL 35184372088832 1)
 | 107 => some (cloneWL 140737488355328 1)
 | 108 => some (cloneWL 5864062014805 2)
 | 141 => some (cloneWL 140737488355328 1)
 | _ => none
noncomputable def E : Env := { P := Tryz.prog, mode := modeT, hint := hintT, known := knownT, eqTypes := [71, 86, 80], fns := fun f => Nat.blt f 224 }
@[simp] theorem E_P : E.P = Tryz.prog := rfl
attribute [simp] Tryz.results2
attribute [simp] Tryz.results3
attribute [simp] Tryz.results4
attribute [simp] Tryz.results5
attribute [simp] Tryz.results6
theorem pu_6 {lent : Bool} {args : List V} {r : V} (hr : evK E (om E) 6 [] (Tryz.f6.body.getD .skip) (endK Tryz.prog Tryz.f6.results.toList (pureFin lent)) (args ++ pois (64 - args.length)) [[]] = some r) : pureV E (om E) 6 lent args = some r := pureV_of (dyn := []) rfl (by rw [E_P]; exact Tryz.func6) (by unfold Tryz.f6; rfl) (by kernel_rfl) (by rw [Tryz.ntmps6]; exact hr)
attribute [simp] Tryz.results7
attribute [simp] Tryz.results8
theorem pu_8 {lent : Bool} {args : List V} {r : V} (hr : evK E (om E) 8 [] (Tryz.f8.body.getD .skip) (endK Tryz.prog Tryz.f8.results.toList (pureFin lent)) (args ++ pois (53 - args.length)) [[]] = some r) : pureV E (om E) 8 lent args = some r := pureV_of (dyn := []) rfl (by rw [E_P]; exact Tryz.func8) (by unfold Tryz.f8; rfl) (by kernel_rfl) (by rw [Tryz.ntmps8]; exact hr)
@[simp] theorem call_8 (args : List V) (h : Heap) : callV E (om E) 8 args h = (viewArgs h args).bind fun a => (pureV E (om E) 8 (!V.flatL args) a).map fun r => (r, h) := callV_pure rfl rfl args h

attribute [simp] Tryz.results9
theorem pu_9 {lent : Bool} {args : List V} {r : V} (hr : evK E (om E) 9 [] (Tryz.f9.body.getD .skip) (endK Tryz.prog Tryz.f9.results.toList (pureFin lent)) (args ++ pois (111 - args.length)) [[]] = some r) : pureV E (om E) 9 lent args = some r := pureV_of (dyn := []) rfl (by rw [E_P]; exact Tryz.func9) (by unfold Tryz.f9; rfl) (by kernel_rfl) (by rw [Tryz.ntmps9]; exact hr)
@[simp] theorem call_9 (args : List V) (h : Heap) : callV E (om E) 9 args h = (viewArgs h args).bind fun a => (pureV E (om E) 9 (!V.flatL args) a).map fun r => (r, h) := callV_pure rfl rfl args h
@[simp] theorem hint_9_0 : E.hint 9 4 = [.forget 4, .forget 47, .forget 48, .forget 49, .forget 50, .forget 51, .forget 52, .forget 53, .forget 54, .forget 55, .forget 56, .forget 57, .forget 58, .forget 59, .forget 60, .forget 61, .forget 62, .forget 63, .forget 64, .forget 65, .forget 66] := rfl
@[simp] theorem hint_9_1 : E.hint 9 9 = [.forget 4, .forget 7, .forget 8, .forget 67, .forget 68, .forget 69, .forget 70, .forget 71, .forget 72, .forget 73, .forget 74, .forget 75, .forget 76, .forget 77, .forget 78, .forget 79, .forget 80, .forget 81, .forget 82, .forget 83, .forget 84, .forget 85, .forget 86, .forget 87, .forget 88, .forget 89, .forget 90, .forget 91, .forget 92, .forget 93, .forget 94, .forget 95, .forget 96, .forget 97, .forget 98, .forget 99, .forget 100, .forget 101, .forget 102, .forget 103, .forget 104, .forget 105] := rfl

attribute [simp] Tryz.results10
theorem pu_10 {lent : Bool} {args : List V} {r : V} (hr : evK E (om E) 10 [] (Tryz.f10.body.getD .skip) (endK Tryz.prog Tryz.f10.results.toList (pureFin lent)) (args ++ pois (95 - args.length)) [[]] = some r) : pureV E (om E) 10 lent args = some r := pureV_of (dyn := []) rfl (by rw [E_P]; exact Tryz.func10) (by unfold Tryz.f10; rfl) (by kernel_rfl) (by rw [Tryz.ntmps10]; exact hr)
@[simp] theorem call_10 (args : List V) (h : Heap) : callV E (om E) 10 args h = (viewArgs h args).bind fun a => (pureV E (om E) 10 (!V.flatL args) a).map fun r => (r, h) := callV_pure rfl rfl args h

attribute [simp] Tryz.results11
theorem pu_11 {lent : Bool} {args : List V} {r : V} (hr : evK E (om E) 11 [] (Tryz.f11.body.getD .skip) (endK Tryz.prog Tryz.f11.results.toList (pureFin lent)) (args ++ pois (26 - args.length)) [[]] = some r) : pureV E (om E) 11 lent args = some r := pureV_of (dyn := []) rfl (by rw [E_P]; exact Tryz.func11) (by unfold Tryz.f11; rfl) (by kernel_rfl) (by rw [Tryz.ntmps11]; exact hr)
@[simp] theorem call_11 (args : List V) (h : Heap) : callV E (om E) 11 args h = (viewArgs h args).bind fun a => (pureV E (om E) 11 (!V.flatL args) a).map fun r => (r, h) := callV_pure rfl rfl args h
@[simp] theorem hint_11_0 : E.hint 11 2 = [.forget 4, .forget 5, .forget 7, .forget 16, .forget 17, .forget 18, .forget 19, .forget 20, .forget 21, .forget 22, .forget 23, .forget 24, .forget 25] := rfl

attribute [simp] Tryz.results12
attribute [simp] Tryz.results13
attribute [simp] Tryz.results14
attribute [simp] Tryz.results15
attribute [simp] Tryz.results16
theorem bo_16 {args : List V} {h : Heap} {r : V × Heap} (hr : evK E (om E) 16 [] (Tryz.f16.body.getD .skip) (endK Tryz.prog Tryz.f16.results.toList bodyFin) (args ++ pois (29 - args.length)) h = some r) : bodyV E (om E) 16 args h = some r := bodyV_of (dyn := []) rfl (by rw [E_P]; exact Tryz.func16) (by unfold Tryz.f16; rfl) (by kernel_rfl) (by rw [Tryz.ntmps16]; exact hr)
theorem call_16 (args : List V) (h : Heap) : callV E (om E) 16 args h = (viewArgs h args).bind fun args' => (bodyV E (om E) 16 args' [[]]).bind fun x => if !V.flatL args && !V.own x.2 x.1 then some (V.out h.top.length (V.strip x.1), h.setTop (h.top ++ (x.2.top.map stripBlk).map (outBlk h.top.length))) else some (V.out h.top.length x.1, h.setTop (h.top ++ x.2.top.map (outBlk h.top.length))) := callV_own rfl rfl args h
@[simp] theorem hint_16_0 : E.hint 16 3 = [.promote 3 1, .forget 6, .forget 7, .forget 8, .forget 9, .forget 10, .forget 11, .forget 12, .forget 13, .forget 14, .forget 15, .forget 16, .forget 17, .forget 18] := rfl
@[simp] theorem hint_16_1 : E.hint 16 7 = [.promote 3 1, .forget 19, .forget 20, .forget 21, .forget 22, .forget 23, .forget 24, .forget 25, .forget 26, .forget 27] := rfl

attribute [simp] Tryz.results17
theorem bo_17 {args : List V} {h : Heap} {r : V × Heap} (hr : evK E (om E) 17 [] (Tryz.f17.body.getD .skip) (endK Tryz.prog Tryz.f17.results.toList bodyFin) (args ++ pois (23 - args.length)) h = some r) : bodyV E (om E) 17 args h = some r := bodyV_of (dyn := []) rfl (by rw [E_P]; exact Tryz.func17) (by unfold Tryz.f17; rfl) (by kernel_rfl) (by rw [Tryz.ntmps17]; exact hr)
theorem call_17 (args : List V) (h : Heap) : callV E (om E) 17 args h = (viewArgs h args).bind fun args' => (bodyV E (om E) 17 args' [[]]).bind fun x => if !V.flatL args && !V.own x.2 x.1 then some (V.out h.top.length (V.strip x.1), h.setTop (h.top ++ (x.2.top.map stripBlk).map (outBlk h.top.length))) else some (V.out h.top.length x.1, h.setTop (h.top ++ x.2.top.map (outBlk h.top.length))) := callV_own rfl rfl args h

attribute [simp] Tryz.results18
theorem pu_18 {lent : Bool} {args : List V} {r : V} (hr : evK E (om E) 18 [] (Tryz.f18.body.getD .skip) (endK Tryz.prog Tryz.f18.results.toList (pureFin lent)) (args ++ pois (23 - args.length)) [[]] = some r) : pureV E (om E) 18 lent args = some r := pureV_of (dyn := []) rfl (by rw [E_P]; exact Tryz.func18) (by unfold Tryz.f18; rfl) (by kernel_rfl) (by rw [Tryz.ntmps18]; exact hr)
@[simp] theorem call_18 (args : List V) (h : Heap) : callV E (om E) 18 args h = (viewArgs h args).bind fun a => (pureV E (om E) 18 (!V.flatL args) a).map fun r => (r, h) := callV_pure rfl rfl args h

attribute [simp] Tryz.results19
theorem pu_19 {lent : Bool} {args : List V} {r : V} (hr : evK E (om E) 19 [] (Tryz.f19.body.getD .skip) (endK Tryz.prog Tryz.f19.results.toList (pureFin lent)) (args ++ pois (42 - args.length)) [[]] = some r) : pureV E (om E) 19 lent args = some r := pureV_of (dyn := []) rfl (by rw [E_P]; exact Tryz.func19) (by unfold Tryz.f19; rfl) (by kernel_rfl) (by rw [Tryz.ntmps19]; exact hr)
@[simp] theorem call_19 (args : List V) (h : Heap) : callV E (om E) 19 args h = (viewArgs h args).bind fun a => (pureV E (om E) 19 (!V.flatL args) a).map fun r => (r, h) := callV_pure rfl rfl args h
@[simp] theorem hint_19_0 : E.hint 19 4 = [.forget 4, .forget 13, .forget 14, .forget 15, .forget 16, .forget 17, .forget 18, .forget 19, .forget 20, .forget 21, .forget 22, .forget 23, .forget 24, .forget 25, .forget 26, .forget 27] := rfl
@[simp] theorem hint_19_1 : E.hint 19 9 = [.forget 4, .forget 28, .forget 29, .forget 30, .forget 31, .forget 32, .forget 33, .forget 34, .forget 35, .forget 36, .forget 37, .forget 38, .forget 39, .forget 40, .forget 41] := rfl

attribute [simp] Tryz.results20
theorem he_20 {args : List V} {h : Heap} {r : V × Heap} (hr : evK E (om E) 20 [] (Tryz.f20.body.getD .skip) (endK Tryz.prog Tryz.f20.results.toList heapFin) (V.upL 1 args ++ pois (14 - (V.upL 1 args).length)) ([] :: h) = some r) : callV E (om E) 20 args h = some r := heap_of (dyn := []) rfl rfl rfl (by rw [E_P]; exact Tryz.func20) (by unfold Tryz.f20; rfl) (by kernel_rfl) (by rw [Tryz.ntmps20]; exact hr)
@[simp] theorem hint_20_0 : E.hint 20 1 = [.forget 3, .forget 4, .forget 5, .forget 6, .forget 7, .forget 8, .forget 9, .forget 10, .forget 11, .forget 12, .forget 13] := rfl

attribute [simp] Tryz.results21
attribute [simp] Tryz.results22
theorem bo_22 {args : List V} {h : Heap} {r : V × Heap} (hr : evK E (om E) 22 [] (Tryz.f22.body.getD .skip) (endK Tryz.prog Tryz.f22.results.toList bodyFin) (args ++ pois (87 - args.length)) h = some r) : bodyV E (om E) 22 args h = some r := bodyV_of (dyn := []) rfl (by rw [E_P]; exact Tryz.func22) (by unfold Tryz.f22; rfl) (by kernel_rfl) (by rw [Tryz.ntmps22]; exact hr)
theorem call_22 (args : List V) (h : Heap) : callV E (om E) 22 args h = (viewArgs h args).bind fun args' => (bodyV E (om E) 22 args' [[]]).bind fun x => if !V.flatL args && !V.own x.2 x.1 then some (V.out h.top.length (V.strip x.1), h.setTop (h.top ++ (x.2.top.map stripBlk).map (outBlk h.top.length))) else some (V.out h.top.length x.1, h.setTop (h.top ++ x.2.top.map (outBlk h.top.length))) := callV_own rfl rfl args h

attribute [simp] Tryz.results23
theorem pu_23 {lent : Bool} {args : List V} {r : V} (hr : evK E (om E) 23 [] (Tryz.f23.body.getD .skip) (endK Tryz.prog Tryz.f23.results.toList (pureFin lent)) (args ++ pois (84 - args.length)) [[]] = some r) : pureV E (om E) 23 lent args = some r := pureV_of (dyn := []) rfl (by rw [E_P]; exact Tryz.func23) (by unfold Tryz.f23; rfl) (by kernel_rfl) (by rw [Tryz.ntmps23]; exact hr)
@[simp] theorem call_23 (args : List V) (h : Heap) : callV E (om E) 23 args h = (viewArgs h args).bind fun a => (pureV E (om E) 23 (!V.flatL args) a).map fun r => (r, h) := callV_pure rfl rfl args h
@[simp] theorem hint_23_0 : E.hint 23 12 = [.forget 57, .forget 58, .forget 59, .forget 60, .forget 61, .forget 62, .forget 63, .forget 64, .forget 65, .forget 66, .forget 67, .forget 68, .forget 69, .forget 70, .forget 71, .forget 72, .forget 73, .forget 74, .forget 75, .forget 76, .forget 77, .forget 78, .forget 79, .forget 80, .forget 81, .forget 82] := rfl

attribute [simp] Tryz.results24
attribute [simp] Tryz.results25
attribute [simp] Tryz.results26
theorem bo_26 {args : List V} {h : Heap} {r : V × Heap} (hr : evK E (om E) 26 [] (Tryz.f26.body.getD .skip) (endK Tryz.prog Tryz.f26.results.toList bodyFin) (args ++ pois (14 - args.length)) h = some r) : bodyV E (om E) 26 args h = some r := bodyV_of (dyn := []) rfl (by rw [E_P]; exact Tryz.func26) (by unfold Tryz.f26; rfl) (by kernel_rfl) (by rw [Tryz.ntmps26]; exact hr)
theorem call_26 (args : List V) (h : Heap) : callV E (om E) 26 args h = (viewArgs h args).bind fun args' => (bodyV E (om E) 26 args' [[]]).bind fun x => if !V.flatL args && !V.own x.2 x.1 then some (V.out h.top.length (V.strip x.1), h.setTop (h.top ++ (x.2.top.map stripBlk).map (outBlk h.top.length))) else some (V.out h.top.length x.1, h.setTop (h.top ++ x.2.top.map (outBlk h.top.length))) := callV_own rfl rfl args h

attribute [simp] Tryz.results27
theorem pu_27 {lent : Bool} {args : List V} {r : V} (hr : evK E (om E) 27 [] (Tryz.f27.body.getD .skip) (endK Tryz.prog Tryz.f27.results.toList (pureFin lent)) (args ++ pois (10 - args.length)) [[]] = some r) : pureV E (om E) 27 lent args = some r := pureV_of (dyn := []) rfl (by rw [E_P]; exact Tryz.func27) (by unfold Tryz.f27; rfl) (by kernel_rfl) (by rw [Tryz.ntmps27]; exact hr)
@[simp] theorem call_27 (args : List V) (h : Heap) : callV E (om E) 27 args h = (viewArgs h args).bind fun a => (pureV E (om E) 27 (!V.flatL args) a).map fun r => (r, h) := callV_pure rfl rfl args h

attribute [simp] Tryz.results28
theorem pu_28 {lent : Bool} {args : List V} {r : V} (hr : evK E (om E) 28 [] (Tryz.f28.body.getD .skip) (endK Tryz.prog Tryz.f28.results.toList (pureFin lent)) (args ++ pois (12 - args.length)) [[]] = some r) : pureV E (om E) 28 lent args = some r := pureV_of (dyn := []) rfl (by rw [E_P]; exact Tryz.func28) (by unfold Tryz.f28; rfl) (by kernel_rfl) (by rw [Tryz.ntmps28]; exact hr)
@[simp] theorem call_28 (args : List V) (h : Heap) : callV E (om E) 28 args h = (viewArgs h args).bind fun a => (pureV E (om E) 28 (!V.flatL args) a).map fun r => (r, h) := callV_pure rfl rfl args h

attribute [simp] Tryz.results29
theorem pu_29 {lent : Bool} {args : List V} {r : V} (hr : evK E (om E) 29 [] (Tryz.f29.body.getD .skip) (endK Tryz.prog Tryz.f29.results.toList (pureFin lent)) (args ++ pois (161 - args.length)) [[]] = some r) : pureV E (om E) 29 lent args = some r := pureV_of (dyn := []) rfl (by rw [E_P]; exact Tryz.func29) (by unfold Tryz.f29; rfl) (by kernel_rfl) (by rw [Tryz.ntmps29]; exact hr)
@[simp] theorem call_29 (args : List V) (h : Heap) : callV E (om E) 29 args h = (viewArgs h args).bind fun a => (pureV E (om E) 29 (!V.flatL args) a).map fun r => (r, h) := callV_pure rfl rfl args h
@[simp] theorem hint_29_0 : E.hint 29 4 = [.forget 4, .forget 43, .forget 44, .forget 45, .forget 46, .forget 47, .forget 48, .forget 49, .forget 50, .forget 51, .forget 52, .forget 53, .forget 54, .forget 55, .forget 56, .forget 57, .forget 58, .forget 59, .forget 60, .forget 61, .forget 62, .forget 63, .forget 64, .forget 65, .forget 66, .forget 67, .forget 68, .forget 69, .forget 70, .forget 71, .forget 72, .forget 73, .forget 74, .forget 75, .forget 76, .forget 77] := rfl
@[simp] theorem hint_29_1 : E.hint 29 9 = [.forget 4, .forget 78, .forget 79, .forget 80, .forget 81, .forget 82, .forget 83, .forget 84, .forget 85, .forget 86, .forget 87, .forget 88, .forget 89, .forget 90, .forget 91, .forget 92, .forget 93, .forget 94, .forget 95] := rfl
@[simp] theorem hint_29_2 : E.hint 29 14 = [.forget 4, .forget 96, .forget 97, .forget 98, .forget 99, .forget 100, .forget 101, .forget 102, .forget 103, .forget 104, .forget 105, .forget 106, .forget 107, .forget 108, .forget 109, .forget 110, .forget 111, .forget 112, .forget 113] := rfl
@[simp] theorem hint_29_3 : E.hint 29 19 = [.forget 4, .forget 114, .forget 115, .forget 116, .forget 117, .forget 118, .forget 119, .forget 120, .forget 121, .forget 122, .forget 123, .forget 124, .forget 125, .forget 126, .forget 127, .forget 128, .forget 129, .forget 130, .forget 131, .forget 132, .forget 133, .forget 134, .forget 135, .forget 136, .forget 137, .forget 138, .forget 139, .forget 140, .forget 141, .forget 142, .forget 143, .forget 144, .forget 145, .forget 146, .forget 147, .forget 148] := rfl

attribute [simp] Tryz.results30
theorem bo_30 {args : List V} {h : Heap} {r : V × Heap} (hr : evK E (om E) 30 [] (Tryz.f30.body.getD .skip) (endK Tryz.prog Tryz.f30.results.toList bodyFin) (args ++ pois (9 - args.length)) h = some r) : bodyV E (om E) 30 args h = some r := bodyV_of (dyn := []) rfl (by rw [E_P]; exact Tryz.func30) (by unfold Tryz.f30; rfl) (by kernel_rfl) (by rw [Tryz.ntmps30]; exact hr)
theorem call_30 (args : List V) (h : Heap) : callV E (om E) 30 args h = (viewArgs h args).bind fun args' => (bodyV E (om E) 30 args' [[]]).bind fun x => if !V.flatL args && !V.own x.2 x.1 then some (V.out h.top.length (V.strip x.1), h.setTop (h.top ++ (x.2.top.map stripBlk).map (outBlk h.top.length))) else some (V.out h.top.length x.1, h.setTop (h.top ++ x.2.top.map (outBlk h.top.length))) := callV_own rfl rfl args h

attribute [simp] Tryz.results31
theorem pu_31 {lent : Bool} {args : List V} {r : V} (hr : evK E (om E) 31 [] (Tryz.f31.body.getD .skip) (endK Tryz.prog Tryz.f31.results.toList (pureFin lent)) (args ++ pois (8 - args.length)) [[]] = some r) : pureV E (om E) 31 lent args = some r := pureV_of (dyn := []) rfl (by rw [E_P]; exact Tryz.func31) (by unfold Tryz.f31; rfl) (by kernel_rfl) (by rw [Tryz.ntmps31]; exact hr)
@[simp] theorem call_31 (args : List V) (h : Heap) : callV E (om E) 31 args h = (viewArgs h args).bind fun a => (pureV E (om E) 31 (!V.flatL args) a).map fun r => (r, h) := callV_pure rfl rfl args h

attribute [simp] Tryz.results32
theorem pu_32 {lent : Bool} {args : List V} {r : V} (hr : evK E (om E) 32 [] (Tryz.f32.body.getD .skip) (endK Tryz.prog Tryz.f32.results.toList (pureFin lent)) (args ++ pois (26 - args.length)) [[]] = some r) : pureV E (om E) 32 lent args = some r := pureV_of (dyn := []) rfl (by rw [E_P]; exact Tryz.func32) (by unfold Tryz.f32; rfl) (by kernel_rfl) (by rw [Tryz.ntmps32]; exact hr)
@[simp] theorem call_32 (args : List V) (h : Heap) : callV E (om E) 32 args h = (viewArgs h args).bind fun a => (pureV E (om E) 32 (!V.flatL args) a).map fun r => (r, h) := callV_pure rfl rfl args h
@[simp] theorem hint_32_0 : E.hint 32 4 = [.forget 4, .forget 11, .forget 12, .forget 13, .forget 14, .forget 15, .forget 16, .forget 17, .forget 18, .forget 19, .forget 20, .forget 21, .forget 22, .forget 23, .forget 24, .forget 25] := rfl

attribute [simp] Tryz.results33
theorem bo_33 {args : List V} {h : Heap} {r : V × Heap} (hr : evK E (om E) 33 [] (Tryz.f33.body.getD .skip) (endK Tryz.prog Tryz.f33.results.toList bodyFin) (args ++ pois (9 - args.length)) h = some r) : bodyV E (om E) 33 args h = some r := bodyV_of (dyn := []) rfl (by rw [E_P]; exact Tryz.func33) (by unfold Tryz.f33; rfl) (by kernel_rfl) (by rw [Tryz.ntmps33]; exact hr)
theorem call_33 (args : List V) (h : Heap) : callV E (om E) 33 args h = (viewArgs h args).bind fun args' => (bodyV E (om E) 33 args' [[]]).bind fun x => if !V.flatL args && !V.own x.2 x.1 then some (V.out h.top.length (V.strip x.1), h.setTop (h.top ++ (x.2.top.map stripBlk).map (outBlk h.top.length))) else some (V.out h.top.length x.1, h.setTop (h.top ++ x.2.top.map (outBlk h.top.length))) := callV_own rfl rfl args h

attribute [simp] Tryz.results34
theorem pu_34 {lent : Bool} {args : List V} {r : V} (hr : evK E (om E) 34 [] (Tryz.f34.body.getD .skip) (endK Tryz.prog Tryz.f34.results.toList (pureFin lent)) (args ++ pois (8 - args.length)) [[]] = some r) : pureV E (om E) 34 lent args = some r := pureV_of (dyn := []) rfl (by rw [E_P]; exact Tryz.func34) (by unfold Tryz.f34; rfl) (by kernel_rfl) (by rw [Tryz.ntmps34]; exact hr)
@[simp] theorem call_34 (args : List V) (h : Heap) : callV E (om E) 34 args h = (viewArgs h args).bind fun a => (pureV E (om E) 34 (!V.flatL args) a).map fun r => (r, h) := callV_pure rfl rfl args h

attribute [simp] Tryz.results35
theorem pu_35 {lent : Bool} {args : List V} {r : V} (hr : evK E (om E) 35 [] (Tryz.f35.body.getD .skip) (endK Tryz.prog Tryz.f35.results.toList (pureFin lent)) (args ++ pois (23 - args.length)) [[]] = some r) : pureV E (om E) 35 lent args = some r := pureV_of (dyn := []) rfl (by rw [E_P]; exact Tryz.func35) (by unfold Tryz.f35; rfl) (by kernel_rfl) (by rw [Tryz.ntmps35]; exact hr)
@[simp] theorem call_35 (args : List V) (h : Heap) : callV E (om E) 35 args h = (viewArgs h args).bind fun a => (pureV E (om E) 35 (!V.flatL args) a).map fun r => (r, h) := callV_pure rfl rfl args h

attribute [simp] Tryz.results36
theorem pu_36 {lent : Bool} {args : List V} {r : V} (hr : evK E (om E) 36 [] (Tryz.f36.body.getD .skip) (endK Tryz.prog Tryz.f36.results.toList (pureFin lent)) (args ++ pois (24 - args.length)) [[]] = some r) : pureV E (om E) 36 lent args = some r := pureV_of (dyn := []) rfl (by rw [E_P]; exact Tryz.func36) (by unfold Tryz.f36; rfl) (by kernel_rfl) (by rw [Tryz.ntmps36]; exact hr)
@[simp] theorem call_36 (args : List V) (h : Heap) : callV E (om E) 36 args h = (viewArgs h args).bind fun a => (pureV E (om E) 36 (!V.flatL args) a).map fun r => (r, h) := callV_pure rfl rfl args h

attribute [simp] Tryz.results37
theorem pu_37 {lent : Bool} {args : List V} {r : V} (hr : evK E (om E) 37 [] (Tryz.f37.body.getD .skip) (endK Tryz.prog Tryz.f37.results.toList (pureFin lent)) (args ++ pois (29 - args.length)) [[]] = some r) : pureV E (om E) 37 lent args = some r := pureV_of (dyn := []) rfl (by rw [E_P]; exact Tryz.func37) (by unfold Tryz.f37; rfl) (by kernel_rfl) (by rw [Tryz.ntmps37]; exact hr)
@[simp] theorem call_37 (args : List V) (h : Heap) : callV E (om E) 37 args h = (viewArgs h args).bind fun a => (pureV E (om E) 37 (!V.flatL args) a).map fun r => (r, h) := callV_pure rfl rfl args h

attribute [simp] Tryz.results38
theorem pu_38 {lent : Bool} {args : List V} {r : V} (hr : evK E (om E) 38 [] (Tryz.f38.body.getD .skip) (endK Tryz.prog Tryz.f38.results.toList (pureFin lent)) (args ++ pois (15 - args.length)) [[]] = some r) : pureV E (om E) 38 lent args = some r := pureV_of (dyn := []) rfl (by rw [E_P]; exact Tryz.func38) (by unfold Tryz.f38; rfl) (by kernel_rfl) (by rw [Tryz.ntmps38]; exact hr)
@[simp] theorem call_38 (args : List V) (h : Heap) : callV E (om E) 38 args h = (viewArgs h args).bind fun a => (pureV E (om E) 38 (!V.flatL args) a).map fun r => (r, h) := callV_pure rfl rfl args h

attribute [simp] Tryz.results39
theorem pu_39 {lent : Bool} {args : List V} {r : V} (hr : evK E (om E) 39 [] (Tryz.f39.body.getD .skip) (endK Tryz.prog Tryz.f39.results.toList (pureFin lent)) (args ++ pois (49 - args.length)) [[]] = some r) : pureV E (om E) 39 lent args = some r := pureV_of (dyn := []) rfl (by rw [E_P]; exact Tryz.func39) (by unfold Tryz.f39; rfl) (by kernel_rfl) (by rw [Tryz.ntmps39]; exact hr)
@[simp] theorem call_39 (args : List V) (h : Heap) : callV E (om E) 39 args h = (viewArgs h args).bind fun a => (pureV E (om E) 39 (!V.flatL args) a).map fun r => (r, h) := callV_pure rfl rfl args h
@[simp] theorem hint_39_0 : E.hint 39 4 = [.forget 5, .forget 10, .forget 11, .forget 12, .forget 13, .forget 14, .forget 15, .forget 16, .forget 17, .forget 18, .forget 19, .forget 20, .forget 21, .forget 22, .forget 23, .forget 24, .forget 25, .forget 26, .forget 27, .forget 28, .forget 29, .forget 30, .forget 31, .forget 32, .forget 33, .forget 34, .forget 35, .forget 36, .forget 37, .forget 38, .forget 39, .forget 40, .forget 41, .forget 42, .forget 43, .forget 44, .forget 45, .forget 46, .forget 47] := rfl

attribute [simp] Tryz.results40
theorem pu_40 {lent : Bool} {args : List V} {r : V} (hr : evK E (om E) 40 [] (Tryz.f40.body.getD .skip) (endK Tryz.prog Tryz.f40.results.toList (pureFin lent)) (args ++ pois (12 - args.length)) [[]] = some r) : pureV E (om E) 40 lent args = some r := pureV_of (dyn := []) rfl (by rw [E_P]; exact Tryz.func40) (by unfold Tryz.f40; rfl) (by kernel_rfl) (by rw [Tryz.ntmps40]; exact hr)
@[simp] theorem call_40 (args : List V) (h : Heap) : callV E (om E) 40 args h = (viewArgs h args).bind fun a => (pureV E (om E) 40 (!V.flatL args) a).map fun r => (r, h) := callV_pure rfl rfl args h

attribute [simp] Tryz.results41
theorem pu_41 {lent : Bool} {args : List V} {r : V} (hr : evK E (om E) 41 [] (Tryz.f41.body.getD .skip) (endK Tryz.prog Tryz.f41.results.toList (pureFin lent)) (args ++ pois (20 - args.length)) [[]] = some r) : pureV E (om E) 41 lent args = some r := pureV_of (dyn := []) rfl (by rw [E_P]; exact Tryz.func41) (by unfold Tryz.f41; rfl) (by kernel_rfl) (by rw [Tryz.ntmps41]; exact hr)
@[simp] theorem call_41 (args : List V) (h : Heap) : callV E (om E) 41 args h = (viewArgs h args).bind fun a => (pureV E (om E) 41 (!V.flatL args) a).map fun r => (r, h) := callV_pure rfl rfl args h

attribute [simp] Tryz.results42
theorem pu_42 {lent : Bool} {args : List V} {r : V} (hr : evK E (om E) 42 [] (Tryz.f42.body.getD .skip) (endK Tryz.prog Tryz.f42.results.toList (pureFin lent)) (args ++ pois (25 - args.length)) [[]] = some r) : pureV E (om E) 42 lent args = some r := pureV_of (dyn := []) rfl (by rw [E_P]; exact Tryz.func42) (by unfold Tryz.f42; rfl) (by kernel_rfl) (by rw [Tryz.ntmps42]; exact hr)
@[simp] theorem call_42 (args : List V) (h : Heap) : callV E (om E) 42 args h = (viewArgs h args).bind fun a => (pureV E (om E) 42 (!V.flatL args) a).map fun r => (r, h) := callV_pure rfl rfl args h

attribute [simp] Tryz.results43
theorem pu_43 {lent : Bool} {args : List V} {r : V} (hr : evK E (om E) 43 [] (Tryz.f43.body.getD .skip) (endK Tryz.prog Tryz.f43.results.toList (pureFin lent)) (args ++ pois (15 - args.length)) [[]] = some r) : pureV E (om E) 43 lent args = some r := pureV_of (dyn := []) rfl (by rw [E_P]; exact Tryz.func43) (by unfold Tryz.f43; rfl) (by kernel_rfl) (by rw [Tryz.ntmps43]; exact hr)
@[simp] theorem call_43 (args : List V) (h : Heap) : callV E (om E) 43 args h = (viewArgs h args).bind fun a => (pureV E (om E) 43 (!V.flatL args) a).map fun r => (r, h) := callV_pure rfl rfl args h

attribute [simp] Tryz.results44
theorem pu_44 {lent : Bool} {args : List V} {r : V} (hr : evK E (om E) 44 [] (Tryz.f44.body.getD .skip) (endK Tryz.prog Tryz.f44.results.toList (pureFin lent)) (args ++ pois (50 - args.length)) [[]] = some r) : pureV E (om E) 44 lent args = some r := pureV_of (dyn := []) rfl (by rw [E_P]; exact Tryz.func44) (by unfold Tryz.f44; rfl) (by kernel_rfl) (by rw [Tryz.ntmps44]; exact hr)
@[simp] theorem call_44 (args : List V) (h : Heap) : callV E (om E) 44 args h = (viewArgs h args).bind fun a => (pureV E (om E) 44 (!V.flatL args) a).map fun r => (r, h) := callV_pure rfl rfl args h
@[simp] theorem hint_44_0 : E.hint 44 5 = [.forget 6, .forget 30, .forget 31, .forget 32, .forget 33, .forget 34, .forget 35, .forget 36, .forget 37, .forget 38, .forget 39, .forget 40, .forget 41, .forget 42, .forget 43, .forget 44, .forget 45, .forget 46, .forget 47, .forget 48, .forget 49] := rfl

attribute [simp] Tryz.results45
theorem pu_45 {lent : Bool} {args : List V} {r : V} (hr : evK E (om E) 45 [] (Tryz.f45.body.getD .skip) (endK Tryz.prog Tryz.f45.results.toList (pureFin lent)) (args ++ pois (12 - args.length)) [[]] = some r) : pureV E (om E) 45 lent args = some r := pureV_of (dyn := []) rfl (by rw [E_P]; exact Tryz.func45) (by unfold Tryz.f45; rfl) (by kernel_rfl) (by rw [Tryz.ntmps45]; exact hr)
@[simp] theorem call_45 (args : List V) (h : Heap) : callV E (om E) 45 args h = (viewArgs h args).bind fun a => (pureV E (om E) 45 (!V.flatL args) a).map fun r => (r, h) := callV_pure rfl rfl args h

attribute [simp] Tryz.results46
theorem pu_46 {lent : Bool} {args : List V} {r : V} (hr : evK E (om E) 46 [] (Tryz.f46.body.getD .skip) (endK Tryz.prog Tryz.f46.results.toList (pureFin lent)) (args ++ pois (25 - args.length)) [[]] = some r) : pureV E (om E) 46 lent args = some r := pureV_of (dyn := []) rfl (by rw [E_P]; exact Tryz.func46) (by unfold Tryz.f46; rfl) (by kernel_rfl) (by rw [Tryz.ntmps46]; exact hr)
@[simp] theorem call_46 (args : List V) (h : Heap) : callV E (om E) 46 args h = (viewArgs h args).bind fun a => (pureV E (om E) 46 (!V.flatL args) a).map fun r => (r, h) := callV_pure rfl rfl args h

attribute [simp] Tryz.results47
theorem pu_47 {lent : Bool} {args : List V} {r : V} (hr : evK E (om E) 47 [] (Tryz.f47.body.getD .skip) (endK Tryz.prog Tryz.f47.results.toList (pureFin lent)) (args ++ pois (18 - args.length)) [[]] = some r) : pureV E (om E) 47 lent args = some r := pureV_of (dyn := []) rfl (by rw [E_P]; exact Tryz.func47) (by unfold Tryz.f47; rfl) (by kernel_rfl) (by rw [Tryz.ntmps47]; exact hr)
@[simp] theorem call_47 (args : List V) (h : Heap) : callV E (om E) 47 args h = (viewArgs h args).bind fun a => (pureV E (om E) 47 (!V.flatL args) a).map fun r => (r, h) := callV_pure rfl rfl args h

attribute [simp] Tryz.results48
attribute [simp] Tryz.results49
attribute [simp] Tryz.results50
attribute [simp] Tryz.results51
theorem pu_51 {lent : Bool} {args : List V} {r : V} (hr : evK E (om E) 51 [] (Tryz.f51.body.getD .skip) (endK Tryz.prog Tryz.f51.results.toList (pureFin lent)) (args ++ pois (22 - args.length)) [[]] = some r) : pureV E (om E) 51 lent args = some r := pureV_of (dyn := []) rfl (by rw [E_P]; exact Tryz.func51) (by unfold Tryz.f51; rfl) (by kernel_rfl) (by rw [Tryz.ntmps51]; exact hr)
@[simp] theorem call_51 (args : List V) (h : Heap) : callV E (om E) 51 args h = (viewArgs h args).bind fun a => (pureV E (om E) 51 (!V.flatL args) a).map fun r => (r, h) := callV_pure rfl rfl args h

attribute [simp] Tryz.results52
theorem pu_52 {lent : Bool} {args : List V} {r : V} (hr : evK E (om E) 52 [8, 14, 21] (Tryz.f52.body.getD .skip) (endK Tryz.prog Tryz.f52.results.toList (pureFin lent)) (args ++ pois (119 - args.length)) [[]] = some r) : pureV E (om E) 52 lent args = some r := pureV_of (dyn := [8, 14, 21]) rfl (by rw [E_P]; exact Tryz.func52) (by unfold Tryz.f52; rfl) (by kernel_rfl) (by rw [Tryz.ntmps52]; exact hr)
@[simp] theorem call_52 (args : List V) (h : Heap) : callV E (om E) 52 args h = (viewArgs h args).bind fun a => (pureV E (om E) 52 (!V.flatL args) a).map fun r => (r, h) := callV_pure rfl rfl args h

attribute [simp] Tryz.results53
theorem pu_53 {lent : Bool} {args : List V} {r : V} (hr : evK E (om E) 53 [16] (Tryz.f53.body.getD .skip) (endK Tryz.prog Tryz.f53.results.toList (pureFin lent)) (args ++ pois (160 - args.length)) [[]] = some r) : pureV E (om E) 53 lent args = some r := pureV_of (dyn := [16]) rfl (by rw [E_P]; exact Tryz.func53) (by unfold Tryz.f53; rfl) (by kernel_rfl) (by rw [Tryz.ntmps53]; exact hr)
@[simp] theorem call_53 (args : List V) (h : Heap) : callV E (om E) 53 args h = (viewArgs h args).bind fun a => (pureV E (om E) 53 (!V.flatL args) a).map fun r => (r, h) := callV_pure rfl rfl args h
@[simp] theorem hint_53_0 : E.hint 53 10 = [.promote 9 1, .forget 11, .forget 12, .forget 44, .forget 45, .forget 46, .forget 47, .forget 48, .forget 49, .forget 50, .forget 51, .forget 52, .forget 53, .forget 54, .forget 55, .forget 56, .forget 57, .forget 58, .forget 59, .forget 60, .forget 61, .forget 62] := rfl
@[simp] theorem hint_53_1 : E.hint 53 23 = [.promoteBox 14 1 1, .forget 113, .forget 114, .forget 115, .forget 116, .forget 117, .forget 118, .forget 119, .forget 120, .forget 121, .forget 122, .forget 123, .forget 124, .forget 125, .forget 126, .forget 127, .forget 128, .forget 129, .forget 130] := rfl

attribute [simp] Tryz.results54
attribute [simp] Tryz.results55
attribute [simp] Tryz.results56
theorem pu_56 {lent : Bool} {args : List V} {r : V} (hr : evK E (om E) 56 [] (Tryz.f56.body.getD .skip) (endK Tryz.prog Tryz.f56.results.toList (pureFin lent)) (args ++ pois (59 - args.length)) [[]] = some r) : pureV E (om E) 56 lent args = some r := pureV_of (dyn := []) rfl (by rw [E_P]; exact Tryz.func56) (by unfold Tryz.f56; rfl) (by kernel_rfl) (by rw [Tryz.ntmps56]; exact hr)
@[simp] theorem call_56 (args : List V) (h : Heap) : callV E (om E) 56 args h = (viewArgs h args).bind fun a => (pureV E (om E) 56 (!V.flatL args) a).map fun r => (r, h) := callV_pure rfl rfl args h
@[simp] theorem hint_56_0 : E.hint 56 4 = [.forget 2, .forget 4, .forget 5, .forget 15, .forget 16, .forget 17, .forget 18, .forget 19, .forget 20, .forget 21, .forget 22, .forget 23] := rfl
@[simp] theorem hint_56_1 : E.hint 56 17 = [.forget 2, .forget 6, .forget 51, .forget 52, .forget 53, .forget 54, .forget 55, .forget 56, .forget 57, .forget 58] := rfl

attribute [simp] Tryz.results57
theorem bo_57 {args : List V} {h : Heap} {r : V × Heap} (hr : evK E (om E) 57 [] (Tryz.f57.body.getD .skip) (endK Tryz.prog Tryz.f57.results.toList bodyFin) (args ++ pois (20 - args.length)) h = some r) : bodyV E (om E) 57 args h = some r := bodyV_of (dyn := []) rfl (by rw [E_P]; exact Tryz.func57) (by unfold Tryz.f57; rfl) (by kernel_rfl) (by rw [Tryz.ntmps57]; exact hr)
theorem call_57 (args : List V) (h : Heap) : callV E (om E) 57 args h = (viewArgs h args).bind fun args' => (bodyV E (om E) 57 args' [[]]).bind fun x => if !V.flatL args && !V.own x.2 x.1 then some (V.out h.top.length (V.strip x.1), h.setTop (h.top ++ (x.2.top.map stripBlk).map (outBlk h.top.length))) else some (V.out h.top.length x.1, h.setTop (h.top ++ x.2.top.map (outBlk h.top.length))) := callV_own rfl rfl args h

attribute [simp] Tryz.results58
theorem bo_58 {args : List V} {h : Heap} {r : V × Heap} (hr : evK E (om E) 58 [] (Tryz.f58.body.getD .skip) (endK Tryz.prog Tryz.f58.results.toList bodyFin) (args ++ pois (96 - args.length)) h = some r) : bodyV E (om E) 58 args h = some r := bodyV_of (dyn := []) rfl (by rw [E_P]; exact Tryz.func58) (by unfold Tryz.f58; rfl) (by kernel_rfl) (by rw [Tryz.ntmps58]; exact hr)
theorem call_58 (args : List V) (h : Heap) : callV E (om E) 58 args h = (viewArgs h args).bind fun args' => (bodyV E (om E) 58 args' [[]]).bind fun x => if !V.flatL args && !V.own x.2 x.1 then some (V.out h.top.length (V.strip x.1), h.setTop (h.top ++ (x.2.top.map stripBlk).map (outBlk h.top.length))) else some (V.out h.top.length x.1, h.setTop (h.top ++ x.2.top.map (outBlk h.top.length))) := callV_own rfl rfl args h
@[simp] theorem hint_58_0 : E.hint 58 8 = [.forget 6, .forget 7, .forget 8, .forget 13, .forget 14, .forget 15, .forget 45, .forget 46, .forget 47, .forget 48, .forget 49, .forget 50, .forget 51, .forget 52, .forget 53, .forget 54, .forget 55, .forget 56, .forget 57, .forget 58, .forget 59, .forget 60, .forget 61, .forget 62, .forget 63, .forget 64, .forget 65, .forget 66, .forget 67, .forget 68, .forget 69, .forget 70] := rfl
@[simp] theorem hint_58_1 : E.hint 58 18 = [.forget 6, .forget 7, .forget 8, .forget 18, .forget 19, .forget 84, .forget 85, .forget 86, .forget 87, .forget 88, .forget 89, .forget 90, .forget 91, .forget 92, .forget 93, .forget 94] := rfl

attribute [simp] Tryz.results59
theorem bo_59 {args : List V} {h : Heap} {r : V × Heap} (hr : evK E (om E) 59 [] (Tryz.f59.body.getD .skip) (endK Tryz.prog Tryz.f59.results.toList bodyFin) (args ++ pois (28 - args.length)) h = some r) : bodyV E (om E) 59 args h = some r := bodyV_of (dyn := []) rfl (by rw [E_P]; exact Tryz.func59) (by unfold Tryz.f59; rfl) (by kernel_rfl) (by rw [Tryz.ntmps59]; exact hr)
theorem call_59 (args : List V) (h : Heap) : callV E (om E) 59 args h = (viewArgs h args).bind fun args' => (bodyV E (om E) 59 args' [[]]).bind fun x => if !V.flatL args && !V.own x.2 x.1 then some (V.out h.top.length (V.strip x.1), h.setTop (h.top ++ (x.2.top.map stripBlk).map (outBlk h.top.length))) else some (V.out h.top.length x.1, h.setTop (h.top ++ x.2.top.map (outBlk h.top.length))) := callV_own rfl rfl args h

attribute [simp] Tryz.results60
theorem pu_60 {lent : Bool} {args : List V} {r : V} (hr : evK E (om E) 60 [] (Tryz.f60.body.getD .skip) (endK Tryz.prog Tryz.f60.results.toList (pureFin lent)) (args ++ pois (25 - args.length)) [[]] = some r) : pureV E (om E) 60 lent args = some r := pureV_of (dyn := []) rfl (by rw [E_P]; exact Tryz.func60) (by unfold Tryz.f60; rfl) (by kernel_rfl) (by rw [Tryz.ntmps60]; exact hr)
@[simp] theorem call_60 (args : List V) (h : Heap) : callV E (om E) 60 args h = (viewArgs h args).bind fun a => (pureV E (om E) 60 (!V.flatL args) a).map fun r => (r, h) := callV_pure rfl rfl args h
@[simp] theorem hint_60_0 : E.hint 60 5 = [.forget 11, .forget 12, .forget 13, .forget 14, .forget 15, .forget 16, .forget 17, .forget 18, .forget 19, .forget 20, .forget 21, .forget 22, .forget 23] := rfl

attribute [simp] Tryz.results61
theorem pu_61 {lent : Bool} {args : List V} {r : V} (hr : evK E (om E) 61 [] (Tryz.f61.body.getD .skip) (endK Tryz.prog Tryz.f61.results.toList (pureFin lent)) (args ++ pois (134 - args.length)) [[]] = some r) : pureV E (om E) 61 lent args = some r := pureV_of (dyn := []) rfl (by rw [E_P]; exact Tryz.func61) (by unfold Tryz.f61; rfl) (by kernel_rfl) (by rw [Tryz.ntmps61]; exact hr)
@[simp] theorem call_61 (args : List V) (h : Heap) : callV E (om E) 61 args h = (viewArgs h args).bind fun a => (pureV E (om E) 61 (!V.flatL args) a).map fun r => (r, h) := callV_pure rfl rfl args h
@[simp] theorem hint_61_0 : E.hint 61 9 = [.forget 10, .forget 40, .forget 41, .forget 42, .forget 43, .forget 44, .forget 45, .forget 46, .forget 47, .forget 48, .forget 49, .forget 50, .forget 51, .forget 52, .forget 53, .forget 54, .forget 55, .forget 56, .forget 57, .forget 58, .forget 59] := rfl
@[simp] theorem hint_61_1 : E.hint 61 16 = [.promote 12 1, .forget 14, .forget 71, .forget 72, .forget 73, .forget 74, .forget 75, .forget 76, .forget 77, .forget 78, .forget 79, .forget 80] := rfl
@[simp] theorem hint_61_2 : E.hint 61 25 = [.promote 16 1, .forget 18, .forget 102, .forget 103, .forget 104, .forget 105, .forget 106, .forget 107, .forget 108, .forget 109, .forget 110, .forget 111, .forget 112, .forget 113] := rfl
@[simp] theorem hint_61_3 : E.hint 61 31 = [.promote 16 1, .forget 20, .forget 125, .forget 126, .forget 127, .forget 128, .forget 129, .forget 130, .forget 131] := rfl

attribute [simp] Tryz.results62
theorem pu_62 {lent : Bool} {args : List V} {r : V} (hr : evK E (om E) 62 [] (Tryz.f62.body.getD .skip) (endK Tryz.prog Tryz.f62.results.toList (pureFin lent)) (args ++ pois (27 - args.length)) [[]] = some r) : pureV E (om E) 62 lent args = some r := pureV_of (dyn := []) rfl (by rw [E_P]; exact Tryz.func62) (by unfold Tryz.f62; rfl) (by kernel_rfl) (by rw [Tryz.ntmps62]; exact hr)
@[simp] theorem call_62 (args : List V) (h : Heap) : callV E (om E) 62 args h = (viewArgs h args).bind fun a => (pureV E (om E) 62 (!V.flatL args) a).map fun r => (r, h) := callV_pure rfl rfl args h
@[simp] theorem hint_62_0 : E.hint 62 3 = [.forget 6, .forget 10, .forget 11, .forget 12, .forget 13, .forget 14, .forget 15, .forget 16, .forget 17, .forget 18, .forget 19, .forget 20, .forget 21, .forget 22] := rfl

attribute [simp] Tryz.results63
theorem pu_63 {lent : Bool} {args : List V} {r : V} (hr : evK E (om E) 63 [] (Tryz.f63.body.getD .skip) (endK Tryz.prog Tryz.f63.results.toList (pureFin lent)) (args ++ pois (42 - args.length)) [[]] = some r) : pureV E (om E) 63 lent args = some r := pureV_of (dyn := []) rfl (by rw [E_P]; exact Tryz.func63) (by unfold Tryz.f63; rfl) (by kernel_rfl) (by rw [Tryz.ntmps63]; exact hr)
@[simp] theorem call_63 (args : List V) (h : Heap) : callV E (om E) 63 args h = (viewArgs h args).bind fun a => (pureV E (om E) 63 (!V.flatL args) a).map fun r => (r, h) := callV_pure rfl rfl args h
@[simp] theorem hint_63_0 : E.hint 63 4 = [.forget 2, .forget 4, .forget 9, .forget 10, .forget 11, .forget 12, .forget 13, .forget 14, .forget 15, .forget 16, .forget 17, .forget 18, .forget 19, .forget 20, .forget 21, .forget 22, .forget 23, .forget 24] := rfl

attribute [simp] Tryz.results64
theorem pu_64 {lent : Bool} {args : List V} {r : V} (hr : evK E (om E) 64 [] (Tryz.f64.body.getD .skip) (endK Tryz.prog Tryz.f64.results.toList (pureFin lent)) (args ++ pois (105 - args.length)) [[]] = some r) : pureV E (om E) 64 lent args = some r := pureV_of (dyn := []) rfl (by rw [E_P]; exact Tryz.func64) (by unfold Tryz.f64; rfl) (by kernel_rfl) (by rw [Tryz.ntmps64]; exact hr)
@[simp] theorem call_64 (args : List V) (h : Heap) : callV E (om E) 64 args h = (viewArgs h args).bind fun a => (pureV E (om E) 64 (!V.flatL args) a).map fun r => (r, h) := callV_pure rfl rfl args h
@[simp] theorem hint_64_0 : E.hint 64 7 = [.forget 6, .forget 7, .forget 10, .forget 35, .forget 36, .forget 37, .forget 38, .forget 39, .forget 40, .forget 41, .forget 42, .forget 43, .forget 44, .forget 45, .forget 46, .forget 47] := rfl
@[simp] theorem hint_64_1 : E.hint 64 13 = [.forget 6, .forget 7, .forget 48, .forget 49, .forget 50, .forget 51, .forget 52, .forget 53, .forget 54, .forget 55, .forget 56, .forget 57, .forget 58, .forget 59, .forget 60, .forget 61, .forget 62, .forget 63, .forget 64, .forget 65, .forget 66, .forget 67, .forget 68, .forget 69, .forget 70, .forget 71, .forget 72, .forget 73, .forget 74, .forget 75, .forget 76, .forget 77] := rfl
@[simp] theorem hint_64_2 : E.hint 64 18 = [.forget 6, .forget 7, .forget 14, .forget 78, .forget 79, .forget 80, .forget 81, .forget 82, .forget 83, .forget 84, .forget 85, .forget 86, .forget 87, .forget 88, .forget 89, .forget 90, .forget 91, .forget 92, .forget 93, .forget 94, .forget 95, .forget 96, .forget 97, .forget 98, .forget 99, .forget 100, .forget 101, .forget 102, .forget 103, .forget 104] := rfl

attribute [simp] Tryz.results65
theorem pu_65 {lent : Bool} {args : List V} {r : V} (hr : evK E (om E) 65 [] (Tryz.f65.body.getD .skip) (endK Tryz.prog Tryz.f65.results.toList (pureFin lent)) (args ++ pois (72 - args.length)) [[]] = some r) : pureV E (om E) 65 lent args = some r := pureV_of (dyn := []) rfl (by rw [E_P]; exact Tryz.func65) (by unfold Tryz.f65; rfl) (by kernel_rfl) (by rw [Tryz.ntmps65]; exact hr)
@[simp] theorem call_65 (args : List V) (h : Heap) : callV E (om E) 65 args h = (viewArgs h args).bind fun a => (pureV E (om E) 65 (!V.flatL args) a).map fun r => (r, h) := callV_pure rfl rfl args h
@[simp] theorem hint_65_0 : E.hint 65 6 = [.forget 31, .forget 32, .forget 33, .forget 34, .forget 35, .forget 36, .forget 37, .forget 38, .forget 39] := rfl
@[simp] theorem hint_65_1 : E.hint 65 12 = [.promote 0 2, .promote 1 1, .promote 10 1, .promote 13 1, .forget 4, .forget 5, .forget 6, .forget 7, .forget 15, .forget 16, .forget 17, .forget 42, .forget 43, .forget 44, .forget 45, .forget 46, .forget 47, .forget 48, .forget 49, .forget 50, .forget 51, .forget 52, .forget 53, .forget 54, .forget 55, .forget 56, .forget 57, .forget 58, .forget 59, .forget 60, .forget 61, .forget 62, .forget 63, .forget 64, .forget 65, .forget 66, .forget 67, .forget 68, .forget 69] := rfl

attribute [simp] Tryz.results66
theorem pu_66 {lent : Bool} {args : List V} {r : V} (hr : evK E (om E) 66 [] (Tryz.f66.body.getD .skip) (endK Tryz.prog Tryz.f66.results.toList (pureFin lent)) (args ++ pois (83 - args.length)) [[]] = some r) : pureV E (om E) 66 lent args = some r := pureV_of (dyn := []) rfl (by rw [E_P]; exact Tryz.func66) (by unfold Tryz.f66; rfl) (by kernel_rfl) (by rw [Tryz.ntmps66]; exact hr)
@[simp] theorem call_66 (args : List V) (h : Heap) : callV E (om E) 66 args h = (viewArgs h args).bind fun a => (pureV E (om E) 66 (!V.flatL args) a).map fun r => (r, h) := callV_pure rfl rfl args h
@[simp] theorem hint_66_0 : E.hint 66 3 = [.promoteBox 3 0 2, .forget 8, .forget 9, .forget 10, .forget 11, .forget 12, .forget 13, .forget 14, .forget 15, .forget 16, .forget 17, .forget 18, .forget 19, .forget 20, .forget 21, .forget 22, .forget 23, .forget 24] := rfl
@[simp] theorem hint_66_1 : E.hint 66 7 = [.promoteBox 3 1 1, .forget 25, .forget 26, .forget 27, .forget 28, .forget 29, .forget 30, .forget 31, .forget 32, .forget 33, .forget 34, .forget 35, .forget 36, .forget 37, .forget 38, .forget 39, .forget 40, .forget 41] := rfl
@[simp] theorem hint_66_2 : E.hint 66 11 = [.promoteBox 3 2 1, .forget 42, .forget 43, .forget 44, .forget 45, .forget 46, .forget 47, .forget 48, .forget 49, .forget 50, .forget 51, .forget 52, .forget 53, .forget 54, .forget 55, .forget 56, .forget 57, .forget 58] := rfl
@[simp] theorem hint_66_3 : E.hint 66 15 = [.promoteBox 3 5 2, .forget 59, .forget 60, .forget 61, .forget 62, .forget 63, .forget 64, .forget 65, .forget 66, .forget 67, .forget 68, .forget 69, .forget 70, .forget 71, .forget 72, .forget 73, .forget 74, .forget 75] := rfl

attribute [simp] Tryz.results67
theorem pu_67 {lent : Bool} {args : List V} {r : V} (hr : evK E (om E) 67 [] (Tryz.f67.body.getD .skip) (endK Tryz.prog Tryz.f67.results.toList (pureFin lent)) (args ++ pois (25 - args.length)) [[]] = some r) : pureV E (om E) 67 lent args = some r := pureV_of (dyn := []) rfl (by rw [E_P]; exact Tryz.func67) (by unfold Tryz.f67; rfl) (by kernel_rfl) (by rw [Tryz.ntmps67]; exact hr)
@[simp] theorem call_67 (args : List V) (h : Heap) : callV E (om E) 67 args h = (viewArgs h args).bind fun a => (pureV E (om E) 67 (!V.flatL args) a).map fun r => (r, h) := callV_pure rfl rfl args h
@[simp] theorem hint_67_0 : E.hint 67 3 = [.forget 17, .forget 18, .forget 19, .forget 20, .forget 21, .forget 22, .forget 23] := rfl

attribute [simp] Tryz.results68
theorem bo_68 {args : List V} {h : Heap} {r : V × Heap} (hr : evK E (om E) 68 [] (Tryz.f68.body.getD .skip) (endK Tryz.prog Tryz.f68.results.toList bodyFin) (args ++ pois (33 - args.length)) h = some r) : bodyV E (om E) 68 args h = some r := bodyV_of (dyn := []) rfl (by rw [E_P]; exact Tryz.func68) (by unfold Tryz.f68; rfl) (by kernel_rfl) (by rw [Tryz.ntmps68]; exact hr)
theorem call_68 (args : List V) (h : Heap) : callV E (om E) 68 args h = (viewArgs h args).bind fun args' => (bodyV E (om E) 68 args' [[]]).bind fun x => if !V.flatL args && !V.own x.2 x.1 then some (V.out h.top.length (V.strip x.1), h.setTop (h.top ++ (x.2.top.map stripBlk).map (outBlk h.top.length))) else some (V.out h.top.length x.1, h.setTop (h.top ++ x.2.top.map (outBlk h.top.length))) := callV_own rfl rfl args h
@[simp] theorem hint_68_0 : E.hint 68 3 = [.promote 3 4, .forget 5, .forget 6, .forget 7, .forget 8, .forget 9, .forget 10, .forget 11, .forget 12, .forget 13, .forget 14, .forget 15, .forget 16, .forget 17, .forget 18, .forget 19, .forget 20, .forget 21, .forget 22, .forget 23, .forget 24, .forget 25, .forget 26, .forget 27, .forget 28, .forget 29, .forget 30, .forget 31] := rfl

attribute [simp] Tryz.results69
attribute [simp] Tryz.results70
attribute [simp] Tryz.results71
attribute [simp] Tryz.results72
attribute [simp] Tryz.results73
theorem pu_73 {lent : Bool} {args : List V} {r : V} (hr : evK E (om E) 73 [] (Tryz.f73.body.getD .skip) (endK Tryz.prog Tryz.f73.results.toList (pureFin lent)) (args ++ pois (17 - args.length)) [[]] = some r) : pureV E (om E) 73 lent args = some r := pureV_of (dyn := []) rfl (by rw [E_P]; exact Tryz.func73) (by unfold Tryz.f73; rfl) (by kernel_rfl) (by rw [Tryz.ntmps73]; exact hr)
@[simp] theorem call_73 (args : List V) (h : Heap) : callV E (om E) 73 args h = (viewArgs h args).bind fun a => (pureV E (om E) 73 (!V.flatL args) a).map fun r => (r, h) := callV_pure rfl rfl args h

attribute [simp] Tryz.results74
theorem bo_74 {args : List V} {h : Heap} {r : V × Heap} (hr : evK E (om E) 74 [] (Tryz.f74.body.getD .skip) (endK Tryz.prog Tryz.f74.results.toList bodyFin) (args ++ pois (19 - args.length)) h = some r) : bodyV E (om E) 74 args h = some r := bodyV_of (dyn := []) rfl (by rw [E_P]; exact Tryz.func74) (by unfold Tryz.f74; rfl) (by kernel_rfl) (by rw [Tryz.ntmps74]; exact hr)
theorem call_74 (args : List V) (h : Heap) : callV E (om E) 74 args h = (viewArgs h args).bind fun args' => (bodyV E (om E) 74 args' [[]]).bind fun x => if !V.flatL args && !V.own x.2 x.1 then some (V.out h.top.length (V.strip x.1), h.setTop (h.top ++ (x.2.top.map stripBlk).map (outBlk h.top.length))) else some (V.out h.top.length x.1, h.setTop (h.top ++ x.2.top.map (outBlk h.top.length))) := callV_own rfl rfl args h
@[simp] theorem hint_74_0 : E.hint 74 3 = [.promote 3 4, .forget 4, .forget 9, .forget 10, .forget 11, .forget 12, .forget 13, .forget 14, .forget 15, .forget 16, .forget 17] := rfl

attribute [simp] Tryz.results75
theorem pu_75 {lent : Bool} {args : List V} {r : V} (hr : evK E (om E) 75 [] (Tryz.f75.body.getD .skip) (endK Tryz.prog Tryz.f75.results.toList (pureFin lent)) (args ++ pois (78 - args.length)) [[]] = some r) : pureV E (om E) 75 lent args = some r := pureV_of (dyn := []) rfl (by rw [E_P]; exact Tryz.func75) (by unfold Tryz.f75; rfl) (by kernel_rfl) (by rw [Tryz.ntmps75]; exact hr)
@[simp] theorem call_75 (args : List V) (h : Heap) : callV E (om E) 75 args h = (viewArgs h args).bind fun a => (pureV E (om E) 75 (!V.flatL args) a).map fun r => (r, h) := callV_pure rfl rfl args h
@[simp] theorem hint_75_0 : E.hint 75 8 = [.canon 6, .forget 27, .forget 28, .forget 29, .forget 30, .forget 31, .forget 32, .forget 33, .forget 34, .forget 35, .forget 36, .forget 37, .forget 38, .forget 39, .forget 40, .forget 41, .forget 42, .forget 43, .forget 44, .forget 45, .forget 46, .forget 47, .forget 48, .forget 49, .forget 50, .forget 51, .forget 52] := rfl

attribute [simp] Tryz.results76
theorem pu_76 {lent : Bool} {args : List V} {r : V} (hr : evK E (om E) 76 [] (Tryz.f76.body.getD .skip) (endK Tryz.prog Tryz.f76.results.toList (pureFin lent)) (args ++ pois (28 - args.length)) [[]] = some r) : pureV E (om E) 76 lent args = some r := pureV_of (dyn := []) rfl (by rw [E_P]; exact Tryz.func76) (by unfold Tryz.f76; rfl) (by kernel_rfl) (by rw [Tryz.ntmps76]; exact hr)
@[simp] theorem call_76 (args : List V) (h : Heap) : callV E (om E) 76 args h = (viewArgs h args).bind fun a => (pureV E (om E) 76 (!V.flatL args) a).map fun r => (r, h) := callV_pure rfl rfl args h
@[simp] theorem hint_76_0 : E.hint 76 4 = [.forget 6, .forget 7, .forget 8, .forget 9, .forget 10, .forget 11, .forget 12, .forget 13, .forget 14, .forget 15, .forget 16, .forget 17, .forget 18, .forget 19, .forget 20, .forget 21, .forget 22, .forget 23] := rfl

attribute [simp] Tryz.results77
theorem pu_77 {lent : Bool} {args : List V} {r : V} (hr : evK E (om E) 77 [] (Tryz.f77.body.getD .skip) (endK Tryz.prog Tryz.f77.results.toList (pureFin lent)) (args ++ pois (17 - args.length)) [[]] = some r) : pureV E (om E) 77 lent args = some r := pureV_of (dyn := []) rfl (by rw [E_P]; exact Tryz.func77) (by unfold Tryz.f77; rfl) (by kernel_rfl) (by rw [Tryz.ntmps77]; exact hr)
@[simp] theorem call_77 (args : List V) (h : Heap) : callV E (om E) 77 args h = (viewArgs h args).bind fun a => (pureV E (om E) 77 (!V.flatL args) a).map fun r => (r, h) := callV_pure rfl rfl args h

attribute [simp] Tryz.results78
theorem pu_78 {lent : Bool} {args : List V} {r : V} (hr : evK E (om E) 78 [] (Tryz.f78.body.getD .skip) (endK Tryz.prog Tryz.f78.results.toList (pureFin lent)) (args ++ pois (9 - args.length)) [[]] = some r) : pureV E (om E) 78 lent args = some r := pureV_of (dyn := []) rfl (by rw [E_P]; exact Tryz.func78) (by unfold Tryz.f78; rfl) (by kernel_rfl) (by rw [Tryz.ntmps78]; exact hr)
@[simp] theorem call_78 (args : List V) (h : Heap) : callV E (om E) 78 args h = (viewArgs h args).bind fun a => (pureV E (om E) 78 (!V.flatL args) a).map fun r => (r, h) := callV_pure rfl rfl args h

attribute [simp] Tryz.results79
theorem pu_79 {lent : Bool} {args : List V} {r : V} (hr : evK E (om E) 79 [] (Tryz.f79.body.getD .skip) (endK Tryz.prog Tryz.f79.results.toList (pureFin lent)) (args ++ pois (12 - args.length)) [[]] = some r) : pureV E (om E) 79 lent args = some r := pureV_of (dyn := []) rfl (by rw [E_P]; exact Tryz.func79) (by unfold Tryz.f79; rfl) (by kernel_rfl) (by rw [Tryz.ntmps79]; exact hr)
@[simp] theorem call_79 (args : List V) (h : Heap) : callV E (om E) 79 args h = (viewArgs h args).bind fun a => (pureV E (om E) 79 (!V.flatL args) a).map fun r => (r, h) := callV_pure rfl rfl args h

attribute [simp] Tryz.results80
theorem pu_80 {lent : Bool} {args : List V} {r : V} (hr : evK E (om E) 80 [] (Tryz.f80.body.getD .skip) (endK Tryz.prog Tryz.f80.results.toList (pureFin lent)) (args ++ pois (24 - args.length)) [[]] = some r) : pureV E (om E) 80 lent args = some r := pureV_of (dyn := []) rfl (by rw [E_P]; exact Tryz.func80) (by unfold Tryz.f80; rfl) (by kernel_rfl) (by rw [Tryz.ntmps80]; exact hr)
@[simp] theorem call_80 (args : List V) (h : Heap) : callV E (om E) 80 args h = (viewArgs h args).bind fun a => (pureV E (om E) 80 (!V.flatL args) a).map fun r => (r, h) := callV_pure rfl rfl args h

attribute [simp] Tryz.results81
attribute [simp] Tryz.results82
attribute [simp] Tryz.results83
theorem pu_83 {lent : Bool} {args : List V} {r : V} (hr : evK E (om E) 83 [] (Tryz.f83.body.getD .skip) (endK Tryz.prog Tryz.f83.results.toList (pureFin lent)) (args ++ pois (79 - args.length)) [[]] = some r) : pureV E (om E) 83 lent args = some r := pureV_of (dyn := []) rfl (by rw [E_P]; exact Tryz.func83) (by unfold Tryz.f83; rfl) (by kernel_rfl) (by rw [Tryz.ntmps83]; exact hr)
@[simp] theorem call_83 (args : List V) (h : Heap) : callV E (om E) 83 args h = (viewArgs h args).bind fun a => (pureV E (om E) 83 (!V.flatL args) a).map fun r => (r, h) := callV_pure rfl rfl args h
@[simp] theorem hint_83_0 : E.hint 83 16 = [.forget 2, .forget 3, .forget 7, .forget 8, .forget 49, .forget 50, .forget 51, .forget 52, .forget 53, .forget 54, .forget 55, .forget 56, .forget 57, .forget 58, .forget 59, .forget 60, .forget 61, .forget 62] := rfl

attribute [simp] Tryz.results84
theorem bo_84 {args : List V} {h : Heap} {r : V × Heap} (hr : evK E (om E) 84 [] (Tryz.f84.body.getD .skip) (endK Tryz.prog Tryz.f84.results.toList bodyFin) (args ++ pois (23 - args.length)) h = some r) : bodyV E (om E) 84 args h = some r := bodyV_of (dyn := []) rfl (by rw [E_P]; exact Tryz.func84) (by unfold Tryz.f84; rfl) (by kernel_rfl) (by rw [Tryz.ntmps84]; exact hr)
theorem call_84 (args : List V) (h : Heap) : callV E (om E) 84 args h = (viewArgs h args).bind fun args' => (bodyV E (om E) 84 args' [[]]).bind fun x => if !V.flatL args && !V.own x.2 x.1 then some (V.out h.top.length (V.strip x.1), h.setTop (h.top ++ (x.2.top.map stripBlk).map (outBlk h.top.length))) else some (V.out h.top.length x.1, h.setTop (h.top ++ x.2.top.map (outBlk h.top.length))) := callV_own rfl rfl args h
@[simp] theorem hint_84_0 : E.hint 84 3 = [.promote 3 2, .forget 5, .forget 8, .forget 9, .forget 10, .forget 11, .forget 12, .forget 13, .forget 14, .forget 15, .forget 16, .forget 17, .forget 18, .forget 19, .forget 20, .forget 21] := rfl

attribute [simp] Tryz.results85
theorem pu_85 {lent : Bool} {args : List V} {r : V} (hr : evK E (om E) 85 [] (Tryz.f85.body.getD .skip) (endK Tryz.prog Tryz.f85.results.toList (pureFin lent)) (args ++ pois (17 - args.length)) [[]] = some r) : pureV E (om E) 85 lent args = some r := pureV_of (dyn := []) rfl (by rw [E_P]; exact Tryz.func85) (by unfold Tryz.f85; rfl) (by kernel_rfl) (by rw [Tryz.ntmps85]; exact hr)
@[simp] theorem call_85 (args : List V) (h : Heap) : callV E (om E) 85 args h = (viewArgs h args).bind fun a => (pureV E (om E) 85 (!V.flatL args) a).map fun r => (r, h) := callV_pure rfl rfl args h

attribute [simp] Tryz.results86
theorem bo_86 {args : List V} {h : Heap} {r : V × Heap} (hr : evK E (om E) 86 [] (Tryz.f86.body.getD .skip) (endK Tryz.prog Tryz.f86.results.toList bodyFin) (args ++ pois (19 - args.length)) h = some r) : bodyV E (om E) 86 args h = some r := bodyV_of (dyn := []) rfl (by rw [E_P]; exact Tryz.func86) (by unfold Tryz.f86; rfl) (by kernel_rfl) (by rw [Tryz.ntmps86]; exact hr)
theorem call_86 (args : List V) (h : Heap) : callV E (om E) 86 args h = (viewArgs h args).bind fun args' => (bodyV E (om E) 86 args' [[]]).bind fun x => if !V.flatL args && !V.own x.2 x.1 then some (V.out h.top.length (V.strip x.1), h.setTop (h.top ++ (x.2.top.map stripBlk).map (outBlk h.top.length))) else some (V.out h.top.length x.1, h.setTop (h.top ++ x.2.top.map (outBlk h.top.length))) := callV_own rfl rfl args h

attribute [simp] Tryz.results87
theorem pu_87 {lent : Bool} {args : List V} {r : V} (hr : evK E (om E) 87 [] (Tryz.f87.body.getD .skip) (endK Tryz.prog Tryz.f87.results.toList (pureFin lent)) (args ++ pois (24 - args.length)) [[]] = some r) : pureV E (om E) 87 lent args = some r := pureV_of (dyn := []) rfl (by rw [E_P]; exact Tryz.func87) (by unfold Tryz.f87; rfl) (by kernel_rfl) (by rw [Tryz.ntmps87]; exact hr)
@[simp] theorem call_87 (args : List V) (h : Heap) : callV E (om E) 87 args h = (viewArgs h args).bind fun a => (pureV E (om E) 87 (!V.flatL args) a).map fun r => (r, h) := callV_pure rfl rfl args h
@[simp] theorem hint_87_0 : E.hint 87 4 = [.promoteBox 5 0 2] := rfl

attribute [simp] Tryz.results88
theorem pu_88 {lent : Bool} {args : List V} {r : V} (hr : evK E (om E) 88 [] (Tryz.f88.body.getD .skip) (endK Tryz.prog Tryz.f88.results.toList (pureFin lent)) (args ++ pois (14 - args.length)) [[]] = some r) : pureV E (om E) 88 lent args = some r := pureV_of (dyn := []) rfl (by rw [E_P]; exact Tryz.func88) (by unfold Tryz.f88; rfl) (by kernel_rfl) (by rw [Tryz.ntmps88]; exact hr)
@[simp] theorem call_88 (args : List V) (h : Heap) : callV E (om E) 88 args h = (viewArgs h args).bind fun a => (pureV E (om E) 88 (!V.flatL args) a).map fun r => (r, h) := callV_pure rfl rfl args h

attribute [simp] Tryz.results89
theorem pu_89 {lent : Bool} {args : List V} {r : V} (hr : evK E (om E) 89 [] (Tryz.f89.body.getD .skip) (endK Tryz.prog Tryz.f89.results.toList (pureFin lent)) (args ++ pois (28 - args.length)) [[]] = some r) : pureV E (om E) 89 lent args = some r := pureV_of (dyn := []) rfl (by rw [E_P]; exact Tryz.func89) (by unfold Tryz.f89; rfl) (by kernel_rfl) (by rw [Tryz.ntmps89]; exact hr)
@[simp] theorem call_89 (args : List V) (h : Heap) : callV E (om E) 89 args h = (viewArgs h args).bind fun a => (pureV E (om E) 89 (!V.flatL args) a).map fun r => (r, h) := callV_pure rfl rfl args h
@[simp] theorem hint_89_0 : E.hint 89 6 = [.promote 5 1, .forget 13, .forget 14, .forget 15, .forget 16, .forget 17, .forget 18, .forget 19, .forget 20, .forget 21, .forget 22, .forget 23, .forget 24, .forget 25, .forget 26] := rfl

attribute [simp] Tryz.results90
theorem pu_90 {lent : Bool} {args : List V} {r : V} (hr : evK E (om E) 90 [] (Tryz.f90.body.getD .skip) (endK Tryz.prog Tryz.f90.results.toList (pureFin lent)) (args ++ pois (2 - args.length)) [[]] = some r) : pureV E (om E) 90 lent args = some r := pureV_of (dyn := []) rfl (by rw [E_P]; exact Tryz.func90) (by unfold Tryz.f90; rfl) (by kernel_rfl) (by rw [Tryz.ntmps90]; exact hr)
@[simp] theorem call_90 (args : List V) (h : Heap) : callV E (om E) 90 args h = (viewArgs h args).bind fun a => (pureV E (om E) 90 (!V.flatL args) a).map fun r => (r, h) := callV_pure rfl rfl args h

attribute [simp] Tryz.results91
theorem pu_91 {lent : Bool} {args : List V} {r : V} (hr : evK E (om E) 91 [] (Tryz.f91.body.getD .skip) (endK Tryz.prog Tryz.f91.results.toList (pureFin lent)) (args ++ pois (14 - args.length)) [[]] = some r) : pureV E (om E) 91 lent args = some r := pureV_of (dyn := []) rfl (by rw [E_P]; exact Tryz.func91) (by unfold Tryz.f91; rfl) (by kernel_rfl) (by rw [Tryz.ntmps91]; exact hr)
@[simp] theorem call_91 (args : List V) (h : Heap) : callV E (om E) 91 args h = (viewArgs h args).bind fun a => (pureV E (om E) 91 (!V.flatL args) a).map fun r => (r, h) := callV_pure rfl rfl args h

attribute [simp] Tryz.results92
theorem pu_92 {lent : Bool} {args : List V} {r : V} (hr : evK E (om E) 92 [] (Tryz.f92.body.getD .skip) (endK Tryz.prog Tryz.f92.results.toList (pureFin lent)) (args ++ pois (15 - args.length)) [[]] = some r) : pureV E (om E) 92 lent args = some r := pureV_of (dyn := []) rfl (by rw [E_P]; exact Tryz.func92) (by unfold Tryz.f92; rfl) (by kernel_rfl) (by rw [Tryz.ntmps92]; exact hr)
@[simp] theorem call_92 (args : List V) (h : Heap) : callV E (om E) 92 args h = (viewArgs h args).bind fun a => (pureV E (om E) 92 (!V.flatL args) a).map fun r => (r, h) := callV_pure rfl rfl args h

attribute [simp] Tryz.results93
theorem pu_93 {lent : Bool} {args : List V} {r : V} (hr : evK E (om E) 93 [] (Tryz.f93.body.getD .skip) (endK Tryz.prog Tryz.f93.results.toList (pureFin lent)) (args ++ pois (64 - args.length)) [[]] = some r) : pureV E (om E) 93 lent args = some r := pureV_of (dyn := []) rfl (by rw [E_P]; exact Tryz.func93) (by unfold Tryz.f93; rfl) (by kernel_rfl) (by rw [Tryz.ntmps93]; exact hr)
@[simp] theorem call_93 (args : List V) (h : Heap) : callV E (om E) 93 args h = (viewArgs h args).bind fun a => (pureV E (om E) 93 (!V.flatL args) a).map fun r => (r, h) := callV_pure rfl rfl args h
@[simp] theorem hint_93_0 : E.hint 93 3 = [.promote 5 2, .forget 7, .forget 8, .forget 9, .forget 10, .forget 11, .forget 12, .forget 13, .forget 14, .forget 15, .forget 16, .forget 17, .forget 18, .forget 19, .forget 20, .forget 21, .forget 22, .forget 23, .forget 24, .forget 25, .forget 26, .forget 27, .forget 28, .forget 29, .forget 30, .forget 31, .forget 32, .forget 33, .forget 34, .forget 35, .forget 36, .forget 37, .forget 38, .forget 39, .forget 40, .forget 41, .forget 42, .forget 43, .forget 44, .forget 45, .forget 46, .forget 47, .forget 48, .forget 49, .forget 50, .forget 51, .forget 52, .forget 53, .forget 54, .forget 55, .forget 56, .forget 57] := rfl

attribute [simp] Tryz.results94
theorem pu_94 {lent : Bool} {args : List V} {r : V} (hr : evK E (om E) 94 [] (Tryz.f94.body.getD .skip) (endK Tryz.prog Tryz.f94.results.toList (pureFin lent)) (args ++ pois (29 - args.length)) [[]] = some r) : pureV E (om E) 94 lent args = some r := pureV_of (dyn := []) rfl (by rw [E_P]; exact Tryz.func94) (by unfold Tryz.f94; rfl) (by kernel_rfl) (by rw [Tryz.ntmps94]; exact hr)
@[simp] theorem call_94 (args : List V) (h : Heap) : callV E (om E) 94 args h = (viewArgs h args).bind fun a => (pureV E (om E) 94 (!V.flatL args) a).map fun r => (r, h) := callV_pure rfl rfl args h

attribute [simp] Tryz.results95
theorem pu_95 {lent : Bool} {args : List V} {r : V} (hr : evK E (om E) 95 [] (Tryz.f95.body.getD .skip) (endK Tryz.prog Tryz.f95.results.toList (pureFin lent)) (args ++ pois (28 - args.length)) [[]] = some r) : pureV E (om E) 95 lent args = some r := pureV_of (dyn := []) rfl (by rw [E_P]; exact Tryz.func95) (by unfold Tryz.f95; rfl) (by kernel_rfl) (by rw [Tryz.ntmps95]; exact hr)
@[simp] theorem call_95 (args : List V) (h : Heap) : callV E (om E) 95 args h = (viewArgs h args).bind fun a => (pureV E (om E) 95 (!V.flatL args) a).map fun r => (r, h) := callV_pure rfl rfl args h
@[simp] theorem hint_95_0 : E.hint 95 5 = [.promote 4 2, .forget 9, .forget 10, .forget 11, .forget 12, .forget 13, .forget 14, .forget 15, .forget 16, .forget 17, .forget 18, .forget 19, .forget 20, .forget 21, .forget 22, .forget 23, .forget 24, .forget 25, .forget 26] := rfl

attribute [simp] Tryz.results96
theorem pu_96 {lent : Bool} {args : List V} {r : V} (hr : evK E (om E) 96 [] (Tryz.f96.body.getD .skip) (endK Tryz.prog Tryz.f96.results.toList (pureFin lent)) (args ++ pois (49 - args.length)) [[]] = some r) : pureV E (om E) 96 lent args = some r := pureV_of (dyn := []) rfl (by rw [E_P]; exact Tryz.func96) (by unfold Tryz.f96; rfl) (by kernel_rfl) (by rw [Tryz.ntmps96]; exact hr)
@[simp] theorem call_96 (args : List V) (h : Heap) : callV E (om E) 96 args h = (viewArgs h args).bind fun a => (pureV E (om E) 96 (!V.flatL args) a).map fun r => (r, h) := callV_pure rfl rfl args h
@[simp] theorem hint_96_0 : E.hint 96 3 = [.loose 6, .promote 6 2, .forget 4, .forget 5, .forget 13, .forget 14, .forget 15, .forget 16, .forget 17, .forget 18, .forget 19, .forget 20, .forget 21, .forget 22, .forget 23, .forget 24, .forget 25, .forget 26, .forget 27, .forget 28, .forget 29, .forget 30, .forget 31, .forget 32, .forget 33, .forget 34, .forget 35, .forget 36, .forget 37] := rfl

attribute [simp] Tryz.results97
theorem pu_97 {lent : Bool} {args : List V} {r : V} (hr : evK E (om E) 97 [] (Tryz.f97.body.getD .skip) (endK Tryz.prog Tryz.f97.results.toList (pureFin lent)) (args ++ pois (33 - args.length)) [[]] = some r) : pureV E (om E) 97 lent args = some r := pureV_of (dyn := []) rfl (by rw [E_P]; exact Tryz.func97) (by unfold Tryz.f97; rfl) (by kernel_rfl) (by rw [Tryz.ntmps97]; exact hr)
@[simp] theorem call_97 (args : List V) (h : Heap) : callV E (om E) 97 args h = (viewArgs h args).bind fun a => (pureV E (om E) 97 (!V.flatL args) a).map fun r => (r, h) := callV_pure rfl rfl args h
@[simp] theorem hint_97_0 : E.hint 97 5 = [.promote 6 1, .forget 14, .forget 15, .forget 16, .forget 17, .forget 18, .forget 19, .forget 20, .forget 21, .forget 22, .forget 23, .forget 24, .forget 25, .forget 26, .forget 27, .forget 28, .forget 29, .forget 30, .forget 31] := rfl

attribute [simp] Tryz.results98
theorem pu_98 {lent : Bool} {args : List V} {r : V} (hr : evK E (om E) 98 [] (Tryz.f98.body.getD .skip) (endK Tryz.prog Tryz.f98.results.toList (pureFin lent)) (args ++ pois (21 - args.length)) [[]] = some r) : pureV E (om E) 98 lent args = some r := pureV_of (dyn := []) rfl (by rw [E_P]; exact Tryz.func98) (by unfold Tryz.f98; rfl) (by kernel_rfl) (by rw [Tryz.ntmps98]; exact hr)
@[simp] theorem call_98 (args : List V) (h : Heap) : callV E (om E) 98 args h = (viewArgs h args).bind fun a => (pureV E (om E) 98 (!V.flatL args) a).map fun r => (r, h) := callV_pure rfl rfl args h

attribute [simp] Tryz.results99
theorem pu_99 {lent : Bool} {args : List V} {r : V} (hr : evK E (om E) 99 [] (Tryz.f99.body.getD .skip) (endK Tryz.prog Tryz.f99.results.toList (pureFin lent)) (args ++ pois (15 - args.length)) [[]] = some r) : pureV E (om E) 99 lent args = some r := pureV_of (dyn := []) rfl (by rw [E_P]; exact Tryz.func99) (by unfold Tryz.f99; rfl) (by kernel_rfl) (by rw [Tryz.ntmps99]; exact hr)
@[simp] theorem call_99 (args : List V) (h : Heap) : callV E (om E) 99 args h = (viewArgs h args).bind fun a => (pureV E (om E) 99 (!V.flatL args) a).map fun r => (r, h) := callV_pure rfl rfl args h

attribute [simp] Tryz.results100
theorem pu_100 {lent : Bool} {args : List V} {r : V} (hr : evK E (om E) 100 [] (Tryz.f100.body.getD .skip) (endK Tryz.prog Tryz.f100.results.toList (pureFin lent)) (args ++ pois (14 - args.length)) [[]] = some r) : pureV E (om E) 100 lent args = some r := pureV_of (dyn := []) rfl (by rw [E_P]; exact Tryz.func100) (by unfold Tryz.f100; rfl) (by kernel_rfl) (by rw [Tryz.ntmps100]; exact hr)
@[simp] theorem call_100 (args : List V) (h : Heap) : callV E (om E) 100 args h = (viewArgs h args).bind fun a => (pureV E (om E) 100 (!V.flatL args) a).map fun r => (r, h) := callV_pure rfl rfl args h

attribute [simp] Tryz.results101
theorem pu_101 {lent : Bool} {args : List V} {r : V} (hr : evK E (om E) 101 [] (Tryz.f101.body.getD .skip) (endK Tryz.prog Tryz.f101.results.toList (pureFin lent)) (args ++ pois (15 - args.length)) [[]] = some r) : pureV E (om E) 101 lent args = some r := pureV_of (dyn := []) rfl (by rw [E_P]; exact Tryz.func101) (by unfold Tryz.f101; rfl) (by kernel_rfl) (by rw [Tryz.ntmps101]; exact hr)
@[simp] theorem call_101 (args : List V) (h : Heap) : callV E (om E) 101 args h = (viewArgs h args).bind fun a => (pureV E (om E) 101 (!V.flatL args) a).map fun r => (r, h) := callV_pure rfl rfl args h

attribute [simp] Tryz.results102
theorem pu_102 {lent : Bool} {args : List V} {r : V} (hr : evK E (om E) 102 [] (Tryz.f102.body.getD .skip) (endK Tryz.prog Tryz.f102.results.toList (pureFin lent)) (args ++ pois (69 - args.length)) [[]] = some r) : pureV E (om E) 102 lent args = some r := pureV_of (dyn := []) rfl (by rw [E_P]; exact Tryz.func102) (by unfold Tryz.f102; rfl) (by kernel_rfl) (by rw [Tryz.ntmps102]; exact hr)
@[simp] theorem call_102 (args : List V) (h : Heap) : callV E (om E) 102 args h = (viewArgs h args).bind fun a => (pureV E (om E) 102 (!V.flatL args) a).map fun r => (r, h) := callV_pure rfl rfl args h
@[simp] theorem hint_102_0 : E.hint 102 3 = [.promote 7 2, .forget 4, .forget 5, .forget 6, .forget 9, .forget 10, .forget 11, .forget 12, .forget 13, .forget 14, .forget 15, .forget 16, .forget 17, .forget 18, .forget 19, .forget 20, .forget 21, .forget 22, .forget 23, .forget 24, .forget 25, .forget 26, .forget 27, .forget 28, .forget 29, .forget 30, .forget 31, .forget 32, .forget 33, .forget 34, .forget 35, .forget 36, .forget 37, .forget 38, .forget 39, .forget 40, .forget 41, .forget 42, .forget 43, .forget 44, .forget 45, .forget 46, .forget 47, .forget 48, .forget 49, .forget 50, .forget 51, .forget 52, .forget 53, .forget 54, .forget 55, .forget 56, .forget 57, .forget 58, .forget 59, .forget 60, .forget 61, .forget 62, .forget 63, .forget 64, .forget 65, .forget 66, .forget 67] := rfl

attribute [simp] Tryz.results103
theorem pu_103 {lent : Bool} {args : List V} {r : V} (hr : evK E (om E) 103 [] (Tryz.f103.body.getD .skip) (endK Tryz.prog Tryz.f103.results.toList (pureFin lent)) (args ++ pois (20 - args.length)) [[]] = some r) : pureV E (om E) 103 lent args = some r := pureV_of (dyn := []) rfl (by rw [E_P]; exact Tryz.func103) (by unfold Tryz.f103; rfl) (by kernel_rfl) (by rw [Tryz.ntmps103]; exact hr)
@[simp] theorem call_103 (args : List V) (h : Heap) : callV E (om E) 103 args h = (viewArgs h args).bind fun a => (pureV E (om E) 103 (!V.flatL args) a).map fun r => (r, h) := callV_pure rfl rfl args h

attribute [simp] Tryz.results104
theorem pu_104 {lent : Bool} {args : List V} {r : V} (hr : evK E (om E) 104 [] (Tryz.f104.body.getD .skip) (endK Tryz.prog Tryz.f104.results.toList (pureFin lent)) (args ++ pois (33 - args.length)) [[]] = some r) : pureV E (om E) 104 lent args = some r := pureV_of (dyn := []) rfl (by rw [E_P]; exact Tryz.func104) (by unfold Tryz.f104; rfl) (by kernel_rfl) (by rw [Tryz.ntmps104]; exact hr)
@[simp] theorem call_104 (args : List V) (h : Heap) : callV E (om E) 104 args h = (viewArgs h args).bind fun a => (pureV E (om E) 104 (!V.flatL args) a).map fun r => (r, h) := callV_pure rfl rfl args h

attribute [simp] Tryz.results105
@[simp] theorem call_105 (args : List V) (h : Heap) : callV E (om E) 105 args h = cloneWL 17592186044416 2 args h := callV_known rfl args h

attribute [simp] Tryz.results106
@[simp] theorem call_106 (args : List V) (h : Heap) : callV E (om E) 106 args h = cloneWL 35184372088832 1 args h := callV_known rfl args h

attribute [simp] Tryz.results107
@[simp] theorem call_107 (args : List V) (h : Heap) : callV E (om E) 107 args h = cloneWL 140737488355328 1 args h := callV_known rfl args h

attribute [simp] Tryz.results108
@[simp] theorem call_108 (args : List V) (h : Heap) : callV E (om E) 108 args h = cloneWL 5864062014805 2 args h := callV_known rfl args h

attribute [simp] Tryz.results109
theorem pu_109 {lent : Bool} {args : List V} {r : V} (hr : evK E (om E) 109 [] (Tryz.f109.body.getD .skip) (endK Tryz.prog Tryz.f109.results.toList (pureFin lent)) (args ++ pois (42 - args.length)) [[]] = some r) : pureV E (om E) 109 lent args = some r := pureV_of (dyn := []) rfl (by rw [E_P]; exact Tryz.func109) (by unfold Tryz.f109; rfl) (by kernel_rfl) (by rw [Tryz.ntmps109]; exact hr)
@[simp] theorem call_109 (args : List V) (h : Heap) : callV E (om E) 109 args h = (viewArgs h args).bind fun a => (pureV E (om E) 109 (!V.flatL args) a).map fun r => (r, h) := callV_pure rfl rfl args h
@[simp] theorem hint_109_0 : E.hint 109 5 = [.promote 5 1, .forget 2, .forget 3, .forget 4, .forget 6, .forget 7, .forget 8, .forget 15, .forget 16, .forget 17, .forget 18, .forget 19, .forget 20, .forget 21, .forget 22, .forget 23, .forget 24, .forget 25, .forget 26, .forget 27, .forget 28, .forget 29, .forget 30, .forget 31, .forget 32, .forget 33, .forget 34, .forget 35, .forget 36, .forget 37, .forget 38, .forget 39, .forget 40] := rfl

attribute [simp] Tryz.results110
theorem bo_110 {args : List V} {h : Heap} {r : V × Heap} (hr : evK E (om E) 110 [] (Tryz.f110.body.getD .skip) (endK Tryz.prog Tryz.f110.results.toList bodyFin) (args ++ pois (70 - args.length)) h = some r) : bodyV E (om E) 110 args h = some r := bodyV_of (dyn := []) rfl (by rw [E_P]; exact Tryz.func110) (by unfold Tryz.f110; rfl) (by kernel_rfl) (by rw [Tryz.ntmps110]; exact hr)
theorem call_110 (args : List V) (h : Heap) : callV E (om E) 110 args h = (bodyV E (om E) 110 (V.upL 1 args) ([] :: h)).bind fun x => some (V.out (Heap.top x.2.tail).length x.1, Heap.setTop x.2.tail (Heap.top x.2.tail ++ x.2.top.map (outBlk (Heap.top x.2.tail).length))) := callV_live rfl rfl args h
@[simp] theorem hint_110_0 : E.hint 110 3 = [.promoteBox 3 0 4, .promoteBox 3 1 1, .forget 4, .forget 5, .forget 6, .forget 12, .forget 13, .forget 14, .forget 15, .forget 16, .forget 17, .forget 18, .forget 19, .forget 20, .forget 21, .forget 22, .forget 23, .forget 24, .forget 25, .forget 26, .forget 27, .forget 28, .forget 29, .forget 30, .forget 31, .forget 32, .forget 33, .forget 34, .forget 35, .forget 36, .forget 37, .forget 38, .forget 39, .forget 40, .forget 41, .forget 42, .forget 43, .forget 44, .forget 45, .forget 46, .forget 47, .forget 48, .forget 49, .forget 50, .forget 51, .forget 52, .forget 53, .forget 54, .forget 55, .forget 56, .forget 57, .forget 58, .forget 59] := rfl

attribute [simp] Tryz.results111
theorem pu_111 {lent : Bool} {args : List V} {r : V} (hr : evK E (om E) 111 [] (Tryz.f111.body.getD .skip) (endK Tryz.prog Tryz.f111.results.toList (pureFin lent)) (args ++ pois (71 - args.length)) [[]] = some r) : pureV E (om E) 111 lent args = some r := pureV_of (dyn := []) rfl (by rw [E_P]; exact Tryz.func111) (by unfold Tryz.f111; rfl) (by kernel_rfl) (by rw [Tryz.ntmps111]; exact hr)
@[simp] theorem call_111 (args : List V) (h : Heap) : callV E (om E) 111 args h = (viewArgs h args).bind fun a => (pureV E (om E) 111 (!V.flatL args) a).map fun r => (r, h) := callV_pure rfl rfl args h

attribute [simp] Tryz.results112
theorem bo_112 {args : List V} {h : Heap} {r : V × Heap} (hr : evK E (om E) 112 [6] (Tryz.f112.body.getD .skip) (endK Tryz.prog Tryz.f112.results.toList bodyFin) (args ++ pois (84 - args.length)) h = some r) : bodyV E (om E) 112 args h = some r := bodyV_of (dyn := [6]) rfl (by rw [E_P]; exact Tryz.func112) (by unfold Tryz.f112; rfl) (by kernel_rfl) (by rw [Tryz.ntmps112]; exact hr)
theorem call_112 (args : List V) (h : Heap) : callV E (om E) 112 args h = bodyV E (om E) 112 args h := callV_inl rfl rfl args h
@[simp] theorem hint_112_0 : E.hint 112 2 = [.promoteAll 0 2 1, .forget 4, .forget 5, .forget 6, .forget 7, .forget 11, .forget 12, .forget 13, .forget 14, .forget 15, .forget 16, .forget 17, .forget 18, .forget 19, .forget 20, .forget 21, .forget 22, .forget 23, .forget 24, .forget 25, .forget 26, .forget 27, .forget 28, .forget 29, .forget 30, .forget 31, .forget 32, .forget 33, .forget 34, .forget 35, .forget 36, .forget 37, .forget 38, .forget 39, .forget 40, .forget 41, .forget 42, .forget 43, .forget 44, .forget 45, .forget 46, .forget 47, .forget 48, .forget 49, .forget 50, .forget 51, .forget 52, .forget 53, .forget 54, .forget 55, .forget 56, .forget 57, .forget 58, .forget 59, .forget 60, .forget 61, .forget 62, .forget 63, .forget 64, .forget 65, .forget 66, .forget 67, .forget 68, .forget 69, .forget 70, .forget 71, .forget 72, .forget 73, .forget 74, .forget 75, .forget 76, .forget 77, .forget 78, .forget 79, .forget 80, .forget 81, .forget 82, .forget 83] := rfl

attribute [simp] Tryz.results113
theorem pu_113 {lent : Bool} {args : List V} {r : V} (hr : evK E (om E) 113 [] (Tryz.f113.body.getD .skip) (endK Tryz.prog Tryz.f113.results.toList (pureFin lent)) (args ++ pois (22 - args.length)) [[]] = some r) : pureV E (om E) 113 lent args = some r := pureV_of (dyn := []) rfl (by rw [E_P]; exact Tryz.func113) (by unfold Tryz.f113; rfl) (by kernel_rfl) (by rw [Tryz.ntmps113]; exact hr)
@[simp] theorem call_113 (args : List V) (h : Heap) : callV E (om E) 113 args h = (viewArgs h args).bind fun a => (pureV E (om E) 113 (!V.flatL args) a).map fun r => (r, h) := callV_pure rfl rfl args h

attribute [simp] Tryz.results114
theorem pu_114 {lent : Bool} {args : List V} {r : V} (hr : evK E (om E) 114 [] (Tryz.f114.body.getD .skip) (endK Tryz.prog Tryz.f114.results.toList (pureFin lent)) (args ++ pois (28 - args.length)) [[]] = some r) : pureV E (om E) 114 lent args = some r := pureV_of (dyn := []) rfl (by rw [E_P]; exact Tryz.func114) (by unfold Tryz.f114; rfl) (by kernel_rfl) (by rw [Tryz.ntmps114]; exact hr)
@[simp] theorem call_114 (args : List V) (h : Heap) : callV E (om E) 114 args h = (viewArgs h args).bind fun a => (pureV E (om E) 114 (!V.flatL args) a).map fun r => (r, h) := callV_pure rfl rfl args h

attribute [simp] Tryz.results115
theorem bo_115 {args : List V} {h : Heap} {r : V × Heap} (hr : evK E (om E) 115 [9] (Tryz.f115.body.getD .skip) (endK Tryz.prog Tryz.f115.results.toList bodyFin) (args ++ pois (47 - args.length)) h = some r) : bodyV E (om E) 115 args h = some r := bodyV_of (dyn := [9]) rfl (by rw [E_P]; exact Tryz.func115) (by unfold Tryz.f115; rfl) (by kernel_rfl) (by rw [Tryz.ntmps115]; exact hr)
theorem call_115 (args : List V) (h : Heap) : callV E (om E) 115 args h = (viewArgs h args).bind fun args' => (bodyV E (om E) 115 args' [[]]).bind fun x => if !V.flatL args && !V.own x.2 x.1 then some (V.out h.top.length (V.strip x.1), h.setTop (h.top ++ (x.2.top.map stripBlk).map (outBlk h.top.length))) else some (V.out h.top.length x.1, h.setTop (h.top ++ x.2.top.map (outBlk h.top.length))) := callV_own rfl rfl args h
@[simp] theorem hint_115_0 : E.hint 115 4 = [.promoteBox 7 0 1] := rfl

attribute [simp] Tryz.results116
theorem bo_116 {args : List V} {h : Heap} {r : V × Heap} (hr : evK E (om E) 116 [] (Tryz.f116.body.getD .skip) (endK Tryz.prog Tryz.f116.results.toList bodyFin) (args ++ pois (36 - args.length)) h = some r) : bodyV E (om E) 116 args h = some r := bodyV_of (dyn := []) rfl (by rw [E_P]; exact Tryz.func116) (by unfold Tryz.f116; rfl) (by kernel_rfl) (by rw [Tryz.ntmps116]; exact hr)
theorem call_116 (args : List V) (h : Heap) : callV E (om E) 116 args h = (viewArgs h args).bind fun args' => (bodyV E (om E) 116 args' [[]]).bind fun x => if !V.flatL args && !V.own x.2 x.1 then some (V.out h.top.length (V.strip x.1), h.setTop (h.top ++ (x.2.top.map stripBlk).map (outBlk h.top.length))) else some (V.out h.top.length x.1, h.setTop (h.top ++ x.2.top.map (outBlk h.top.length))) := callV_own rfl rfl args h
@[simp] theorem hint_116_0 : E.hint 116 3 = [.forget 5, .forget 12, .forget 13, .forget 14, .forget 15, .forget 16, .forget 17, .forget 18, .forget 19, .forget 20, .forget 21, .forget 22] := rfl
@[simp] theorem hint_116_1 : E.hint 116 11 = [.promote 6 1, .forget 8, .forget 28, .forget 29, .forget 30, .forget 31, .forget 32, .forget 33, .forget 34] := rfl

attribute [simp] Tryz.results117
theorem pu_117 {lent : Bool} {args : List V} {r : V} (hr : evK E (om E) 117 [] (Tryz.f117.body.getD .skip) (endK Tryz.prog Tryz.f117.results.toList (pureFin lent)) (args ++ pois (17 - args.length)) [[]] = some r) : pureV E (om E) 117 lent args = some r := pureV_of (dyn := []) rfl (by rw [E_P]; exact Tryz.func117) (by unfold Tryz.f117; rfl) (by kernel_rfl) (by rw [Tryz.ntmps117]; exact hr)
@[simp] theorem call_117 (args : List V) (h : Heap) : callV E (om E) 117 args h = (viewArgs h args).bind fun a => (pureV E (om E) 117 (!V.flatL args) a).map fun r => (r, h) := callV_pure rfl rfl args h
@[simp] theorem hint_117_0 : E.hint 117 3 = [.promote 3 1, .forget 5, .forget 9, .forget 10, .forget 11, .forget 12, .forget 13, .forget 14, .forget 15] := rfl

attribute [simp] Tryz.results118
theorem pu_118 {lent : Bool} {args : List V} {r : V} (hr : evK E (om E) 118 [] (Tryz.f118.body.getD .skip) (endK Tryz.prog Tryz.f118.results.toList (pureFin lent)) (args ++ pois (17 - args.length)) [[]] = some r) : pureV E (om E) 118 lent args = some r := pureV_of (dyn := []) rfl (by rw [E_P]; exact Tryz.func118) (by unfold Tryz.f118; rfl) (by kernel_rfl) (by rw [Tryz.ntmps118]; exact hr)
@[simp] theorem call_118 (args : List V) (h : Heap) : callV E (om E) 118 args h = (viewArgs h args).bind fun a => (pureV E (om E) 118 (!V.flatL args) a).map fun r => (r, h) := callV_pure rfl rfl args h
@[simp] theorem hint_118_0 : E.hint 118 3 = [.promote 3 1, .forget 5, .forget 9, .forget 10, .forget 11, .forget 12, .forget 13, .forget 14, .forget 15] := rfl

attribute [simp] Tryz.results119
theorem pu_119 {lent : Bool} {args : List V} {r : V} (hr : evK E (om E) 119 [] (Tryz.f119.body.getD .skip) (endK Tryz.prog Tryz.f119.results.toList (pureFin lent)) (args ++ pois (33 - args.length)) [[]] = some r) : pureV E (om E) 119 lent args = some r := pureV_of (dyn := []) rfl (by rw [E_P]; exact Tryz.func119) (by unfold Tryz.f119; rfl) (by kernel_rfl) (by rw [Tryz.ntmps119]; exact hr)
@[simp] theorem call_119 (args : List V) (h : Heap) : callV E (om E) 119 args h = (viewArgs h args).bind fun a => (pureV E (om E) 119 (!V.flatL args) a).map fun r => (r, h) := callV_pure rfl rfl args h
@[simp] theorem hint_119_0 : E.hint 119 4 = [.promote 7 2, .forget 4, .forget 5, .forget 9, .forget 15, .forget 16, .forget 17, .forget 18, .forget 19, .forget 20, .forget 21, .forget 22, .forget 23, .forget 24, .forget 25, .forget 26, .forget 27, .forget 28, .forget 29, .forget 30, .forget 31] := rfl

attribute [simp] Tryz.results120
theorem bo_120 {args : List V} {h : Heap} {r : V × Heap} (hr : evK E (om E) 120 [] (Tryz.f120.body.getD .skip) (endK Tryz.prog Tryz.f120.results.toList bodyFin) (args ++ pois (18 - args.length)) h = some r) : bodyV E (om E) 120 args h = some r := bodyV_of (dyn := []) rfl (by rw [E_P]; exact Tryz.func120) (by unfold Tryz.f120; rfl) (by kernel_rfl) (by rw [Tryz.ntmps120]; exact hr)
theorem call_120 (args : List V) (h : Heap) : callV E (om E) 120 args h = (viewArgs h args).bind fun args' => (bodyV E (om E) 120 args' [[]]).bind fun x => if !V.flatL args && !V.own x.2 x.1 then some (V.out h.top.length (V.strip x.1), h.setTop (h.top ++ (x.2.top.map stripBlk).map (outBlk h.top.length))) else some (V.out h.top.length x.1, h.setTop (h.top ++ x.2.top.map (outBlk h.top.length))) := callV_own rfl rfl args h

attribute [simp] Tryz.results121
theorem pu_121 {lent : Bool} {args : List V} {r : V} (hr : evK E (om E) 121 [] (Tryz.f121.body.getD .skip) (endK Tryz.prog Tryz.f121.results.toList (pureFin lent)) (args ++ pois (18 - args.length)) [[]] = some r) : pureV E (om E) 121 lent args = some r := pureV_of (dyn := []) rfl (by rw [E_P]; exact Tryz.func121) (by unfold Tryz.f121; rfl) (by kernel_rfl) (by rw [Tryz.ntmps121]; exact hr)
@[simp] theorem call_121 (args : List V) (h : Heap) : callV E (om E) 121 args h = (viewArgs h args).bind fun a => (pureV E (om E) 121 (!V.flatL args) a).map fun r => (r, h) := callV_pure rfl rfl args h

attribute [simp] Tryz.results122
theorem pu_122 {lent : Bool} {args : List V} {r : V} (hr : evK E (om E) 122 [] (Tryz.f122.body.getD .skip) (endK Tryz.prog Tryz.f122.results.toList (pureFin lent)) (args ++ pois (41 - args.length)) [[]] = some r) : pureV E (om E) 122 lent args = some r := pureV_of (dyn := []) rfl (by rw [E_P]; exact Tryz.func122) (by unfold Tryz.f122; rfl) (by kernel_rfl) (by rw [Tryz.ntmps122]; exact hr)
@[simp] theorem call_122 (args : List V) (h : Heap) : callV E (om E) 122 args h = (viewArgs h args).bind fun a => (pureV E (om E) 122 (!V.flatL args) a).map fun r => (r, h) := callV_pure rfl rfl args h
@[simp] theorem hint_122_0 : E.hint 122 4 = [.forget 2, .forget 4, .forget 8, .forget 9, .forget 10, .forget 11, .forget 12, .forget 13, .forget 14, .forget 15, .forget 16, .forget 17, .forget 18, .forget 19, .forget 20, .forget 21, .forget 22, .forget 23, .forget 24, .forget 25, .forget 26, .forget 27, .forget 28, .forget 29, .forget 30, .forget 31, .forget 32, .forget 33, .forget 34, .forget 35, .forget 36, .forget 37, .forget 38, .forget 39, .forget 40] := rfl

attribute [simp] Tryz.results123
theorem pu_123 {lent : Bool} {args : List V} {r : V} (hr : evK E (om E) 123 [] (Tryz.f123.body.getD .skip) (endK Tryz.prog Tryz.f123.results.toList (pureFin lent)) (args ++ pois (61 - args.length)) [[]] = some r) : pureV E (om E) 123 lent args = some r := pureV_of (dyn := []) rfl (by rw [E_P]; exact Tryz.func123) (by unfold Tryz.f123; rfl) (by kernel_rfl) (by rw [Tryz.ntmps123]; exact hr)
@[simp] theorem call_123 (args : List V) (h : Heap) : callV E (om E) 123 args h = (viewArgs h args).bind fun a => (pureV E (om E) 123 (!V.flatL args) a).map fun r => (r, h) := callV_pure rfl rfl args h
@[simp] theorem hint_123_0 : E.hint 123 5 = [.promote 5 1, .forget 2, .forget 3, .forget 4, .forget 7, .forget 8, .forget 9, .forget 10, .forget 14, .forget 15, .forget 16, .forget 17, .forget 18, .forget 19, .forget 20, .forget 21, .forget 22, .forget 23, .forget 24, .forget 25, .forget 26, .forget 27, .forget 28, .forget 29, .forget 30, .forget 31, .forget 32, .forget 33, .forget 34, .forget 35, .forget 36, .forget 37, .forget 38, .forget 39, .forget 40, .forget 41, .forget 42, .forget 43, .forget 44, .forget 45, .forget 46, .forget 47, .forget 48, .forget 49, .forget 50, .forget 51, .forget 52, .forget 53, .forget 54, .forget 55, .forget 56, .forget 57, .forget 58, .forget 59] := rfl
@[simp] theorem hint_123_1 : E.hint 123 14 = [.promote 5 1, .forget 47, .forget 48, .forget 49, .forget 50, .forget 51, .forget 52, .forget 53, .forget 54, .forget 55, .forget 56, .forget 57, .forget 58, .forget 59] := rfl

attribute [simp] Tryz.results124
theorem pu_124 {lent : Bool} {args : List V} {r : V} (hr : evK E (om E) 124 [] (Tryz.f124.body.getD .skip) (endK Tryz.prog Tryz.f124.results.toList (pureFin lent)) (args ++ pois (104 - args.length)) [[]] = some r) : pureV E (om E) 124 lent args = some r := pureV_of (dyn := []) rfl (by rw [E_P]; exact Tryz.func124) (by unfold Tryz.f124; rfl) (by kernel_rfl) (by rw [Tryz.ntmps124]; exact hr)
@[simp] theorem call_124 (args : List V) (h : Heap) : callV E (om E) 124 args h = (viewArgs h args).bind fun a => (pureV E (om E) 124 (!V.flatL args) a).map fun r => (r, h) := callV_pure rfl rfl args h

attribute [simp] Tryz.results125
theorem pu_125 {lent : Bool} {args : List V} {r : V} (hr : evK E (om E) 125 [] (Tryz.f125.body.getD .skip) (endK Tryz.prog Tryz.f125.results.toList (pureFin lent)) (args ++ pois (20 - args.length)) [[]] = some r) : pureV E (om E) 125 lent args = some r := pureV_of (dyn := []) rfl (by rw [E_P]; exact Tryz.func125) (by unfold Tryz.f125; rfl) (by kernel_rfl) (by rw [Tryz.ntmps125]; exact hr)
@[simp] theorem call_125 (args : List V) (h : Heap) : callV E (om E) 125 args h = (viewArgs h args).bind fun a => (pureV E (om E) 125 (!V.flatL args) a).map fun r => (r, h) := callV_pure rfl rfl args h

attribute [simp] Tryz.results126
theorem he_126 {args : List V} {h : Heap} {r : V × Heap} (hr : evK E (om E) 126 [] (Tryz.f126.body.getD .skip) (endK Tryz.prog Tryz.f126.results.toList heapFin) (V.upL 1 args ++ pois (131 - (V.upL 1 args).length)) ([] :: h) = some r) : callV E (om E) 126 args h = some r := heap_of (dyn := []) rfl rfl rfl (by rw [E_P]; exact Tryz.func126) (by unfold Tryz.f126; rfl) (by kernel_rfl) (by rw [Tryz.ntmps126]; exact hr)
@[simp] theorem hint_126_0 : E.hint 126 7 = [.forget 8, .forget 9, .forget 10, .forget 15, .forget 16, .forget 17, .forget 18, .forget 19, .forget 20, .forget 21, .forget 35, .forget 36, .forget 37, .forget 38, .forget 39, .forget 40, .forget 41, .forget 42, .forget 43, .forget 44, .forget 45, .forget 46, .forget 47, .forget 48, .forget 49, .forget 50, .forget 51, .forget 52, .forget 53, .forget 54, .forget 55, .forget 56, .forget 57, .forget 58, .forget 59, .forget 60, .forget 61, .forget 62, .forget 63, .forget 64, .forget 65, .forget 66, .forget 67, .forget 68, .forget 69, .forget 70, .forget 71, .forget 72, .forget 73, .forget 74, .forget 75, .forget 76, .forget 77, .forget 78, .forget 79, .forget 80, .forget 81, .forget 82, .forget 83, .forget 84, .forget 85, .forget 86, .forget 87, .forget 88, .forget 89, .forget 90, .forget 91, .forget 92, .forget 93, .forget 94, .forget 95, .forget 96, .forget 97, .forget 98, .forget 99, .forget 100, .forget 101, .forget 102, .forget 103, .forget 104, .forget 105, .forget 106, .forget 107, .forget 108, .forget 109, .forget 110, .forget 111, .forget 112, .forget 113, .forget 114, .forget 115, .forget 116, .forget 117, .forget 118, .forget 119, .forget 120, .forget 121, .forget 122, .forget 123, .forget 124, .forget 125, .forget 126, .forget 127, .forget 128, .forget 129] := rfl
@[simp] theorem hint_126_1 : E.hint 126 23 = [.forget 8, .forget 9, .forget 10, .forget 21, .forget 92, .forget 93, .forget 94, .forget 95, .forget 96, .forget 97, .forget 98, .forget 99, .forget 100, .forget 101, .forget 102, .forget 103, .forget 104, .forget 105, .forget 106, .forget 107, .forget 108, .forget 109, .forget 110, .forget 111, .forget 112, .forget 113, .forget 114, .forget 115, .forget 116, .forget 117, .forget 118, .forget 119, .forget 120, .forget 121, .forget 122, .forget 123, .forget 124, .forget 125, .forget 126, .forget 127, .forget 128] := rfl

attribute [simp] Tryz.results127
theorem pu_127 {lent : Bool} {args : List V} {r : V} (hr : evK E (om E) 127 [] (Tryz.f127.body.getD .skip) (endK Tryz.prog Tryz.f127.results.toList (pureFin lent)) (args ++ pois (23 - args.length)) [[]] = some r) : pureV E (om E) 127 lent args = some r := pureV_of (dyn := []) rfl (by rw [E_P]; exact Tryz.func127) (by unfold Tryz.f127; rfl) (by kernel_rfl) (by rw [Tryz.ntmps127]; exact hr)
@[simp] theorem call_127 (args : List V) (h : Heap) : callV E (om E) 127 args h = (viewArgs h args).bind fun a => (pureV E (om E) 127 (!V.flatL args) a).map fun r => (r, h) := callV_pure rfl rfl args h
@[simp] theorem hint_127_0 : E.hint 127 2 = [.forget 8, .forget 9, .forget 10, .forget 11, .forget 12, .forget 13, .forget 14, .forget 15, .forget 16, .forget 17, .forget 18, .forget 19, .forget 20, .forget 21] := rfl

attribute [simp] Tryz.results128
theorem pu_128 {lent : Bool} {args : List V} {r : V} (hr : evK E (om E) 128 [] (Tryz.f128.body.getD .skip) (endK Tryz.prog Tryz.f128.results.toList (pureFin lent)) (args ++ pois (11 - args.length)) [[]] = some r) : pureV E (om E) 128 lent args = some r := pureV_of (dyn := []) rfl (by rw [E_P]; exact Tryz.func128) (by unfold Tryz.f128; rfl) (by kernel_rfl) (by rw [Tryz.ntmps128]; exact hr)
@[simp] theorem call_128 (args : List V) (h : Heap) : callV E (om E) 128 args h = (viewArgs h args).bind fun a => (pureV E (om E) 128 (!V.flatL args) a).map fun r => (r, h) := callV_pure rfl rfl args h
@[simp] theorem hint_128_0 : E.hint 128 3 = [] := rfl

attribute [simp] Tryz.results129
theorem pu_129 {lent : Bool} {args : List V} {r : V} (hr : evK E (om E) 129 [] (Tryz.f129.body.getD .skip) (endK Tryz.prog Tryz.f129.results.toList (pureFin lent)) (args ++ pois (21 - args.length)) [[]] = some r) : pureV E (om E) 129 lent args = some r := pureV_of (dyn := []) rfl (by rw [E_P]; exact Tryz.func129) (by unfold Tryz.f129; rfl) (by kernel_rfl) (by rw [Tryz.ntmps129]; exact hr)
@[simp] theorem call_129 (args : List V) (h : Heap) : callV E (om E) 129 args h = (viewArgs h args).bind fun a => (pureV E (om E) 129 (!V.flatL args) a).map fun r => (r, h) := callV_pure rfl rfl args h

attribute [simp] Tryz.results130
theorem pu_130 {lent : Bool} {args : List V} {r : V} (hr : evK E (om E) 130 [] (Tryz.f130.body.getD .skip) (endK Tryz.prog Tryz.f130.results.toList (pureFin lent)) (args ++ pois (66 - args.length)) [[]] = some r) : pureV E (om E) 130 lent args = some r := pureV_of (dyn := []) rfl (by rw [E_P]; exact Tryz.func130) (by unfold Tryz.f130; rfl) (by kernel_rfl) (by rw [Tryz.ntmps130]; exact hr)
@[simp] theorem call_130 (args : List V) (h : Heap) : callV E (om E) 130 args h = (viewArgs h args).bind fun a => (pureV E (om E) 130 (!V.flatL args) a).map fun r => (r, h) := callV_pure rfl rfl args h
@[simp] theorem hint_130_0 : E.hint 130 4 = [.canon 6, .forget 18, .forget 19, .forget 20, .forget 21, .forget 22, .forget 23, .forget 24, .forget 25, .forget 26, .forget 27, .forget 28, .forget 29, .forget 30, .forget 31, .forget 32, .forget 33] := rfl
@[simp] theorem hint_130_1 : E.hint 130 9 = [.canon 8, .forget 10, .forget 34, .forget 35, .forget 36, .forget 37, .forget 38, .forget 39, .forget 40, .forget 41, .forget 42, .forget 43, .forget 44, .forget 45, .forget 46, .forget 47, .forget 48, .forget 49, .forget 50, .forget 51, .forget 52, .forget 53, .forget 54, .forget 55, .forget 56, .forget 57, .forget 58, .forget 59] := rfl

attribute [simp] Tryz.results131
theorem pu_131 {lent : Bool} {args : List V} {r : V} (hr : evK E (om E) 131 [] (Tryz.f131.body.getD .skip) (endK Tryz.prog Tryz.f131.results.toList (pureFin lent)) (args ++ pois (32 - args.length)) [[]] = some r) : pureV E (om E) 131 lent args = some r := pureV_of (dyn := []) rfl (by rw [E_P]; exact Tryz.func131) (by unfold Tryz.f131; rfl) (by kernel_rfl) (by rw [Tryz.ntmps131]; exact hr)
@[simp] theorem call_131 (args : List V) (h : Heap) : callV E (om E) 131 args h = (viewArgs h args).bind fun a => (pureV E (om E) 131 (!V.flatL args) a).map fun r => (r, h) := callV_pure rfl rfl args h
@[simp] theorem hint_131_0 : E.hint 131 3 = [.promote 3 1, .forget 5, .forget 6, .forget 7, .forget 8, .forget 9, .forget 10, .forget 11, .forget 12, .forget 13, .forget 14, .forget 15, .forget 16, .forget 17, .forget 18, .forget 19, .forget 20, .forget 21, .forget 22, .forget 23, .forget 24, .forget 25, .forget 26, .forget 27, .forget 28, .forget 29, .forget 30] := rfl
@[simp] theorem hint_131_1 : E.hint 131 6 = [.promote 3 1, .forget 12, .forget 13, .forget 14, .forget 15, .forget 16, .forget 17, .forget 18, .forget 19, .forget 20, .forget 21, .forget 22, .forget 23, .forget 24, .forget 25, .forget 26, .forget 27, .forget 28, .forget 29, .forget 30] := rfl

attribute [simp] Tryz.results132
theorem pu_132 {lent : Bool} {args : List V} {r : V} (hr : evK E (om E) 132 [] (Tryz.f132.body.getD .skip) (endK Tryz.prog Tryz.f132.results.toList (pureFin lent)) (args ++ pois (7 - args.length)) [[]] = some r) : pureV E (om E) 132 lent args = some r := pureV_of (dyn := []) rfl (by rw [E_P]; exact Tryz.func132) (by unfold Tryz.f132; rfl) (by kernel_rfl) (by rw [Tryz.ntmps132]; exact hr)
@[simp] theorem call_132 (args : List V) (h : Heap) : callV E (om E) 132 args h = (viewArgs h args).bind fun a => (pureV E (om E) 132 (!V.flatL args) a).map fun r => (r, h) := callV_pure rfl rfl args h

attribute [simp] Tryz.results133
theorem pu_133 {lent : Bool} {args : List V} {r : V} (hr : evK E (om E) 133 [] (Tryz.f133.body.getD .skip) (endK Tryz.prog Tryz.f133.results.toList (pureFin lent)) (args ++ pois (14 - args.length)) [[]] = some r) : pureV E (om E) 133 lent args = some r := pureV_of (dyn := []) rfl (by rw [E_P]; exact Tryz.func133) (by unfold Tryz.f133; rfl) (by kernel_rfl) (by rw [Tryz.ntmps133]; exact hr)
@[simp] theorem call_133 (args : List V) (h : Heap) : callV E (om E) 133 args h = (viewArgs h args).bind fun a => (pureV E (om E) 133 (!V.flatL args) a).map fun r => (r, h) := callV_pure rfl rfl args h

attribute [simp] Tryz.results134
theorem pu_134 {lent : Bool} {args : List V} {r : V} (hr : evK E (om E) 134 [] (Tryz.f134.body.getD .skip) (endK Tryz.prog Tryz.f134.results.toList (pureFin lent)) (args ++ pois (24 - args.length)) [[]] = some r) : pureV E (om E) 134 lent args = some r := pureV_of (dyn := []) rfl (by rw [E_P]; exact Tryz.func134) (by unfold Tryz.f134; rfl) (by kernel_rfl) (by rw [Tryz.ntmps134]; exact hr)
@[simp] theorem call_134 (args : List V) (h : Heap) : callV E (om E) 134 args h = (viewArgs h args).bind fun a => (pureV E (om E) 134 (!V.flatL args) a).map fun r => (r, h) := callV_pure rfl rfl args h

attribute [simp] Tryz.results135
theorem pu_135 {lent : Bool} {args : List V} {r : V} (hr : evK E (om E) 135 [] (Tryz.f135.body.getD .skip) (endK Tryz.prog Tryz.f135.results.toList (pureFin lent)) (args ++ pois (28 - args.length)) [[]] = some r) : pureV E (om E) 135 lent args = some r := pureV_of (dyn := []) rfl (by rw [E_P]; exact Tryz.func135) (by unfold Tryz.f135; rfl) (by kernel_rfl) (by rw [Tryz.ntmps135]; exact hr)
@[simp] theorem call_135 (args : List V) (h : Heap) : callV E (om E) 135 args h = (viewArgs h args).bind fun a => (pureV E (om E) 135 (!V.flatL args) a).map fun r => (r, h) := callV_pure rfl rfl args h

attribute [simp] Tryz.results136
theorem pu_136 {lent : Bool} {args : List V} {r : V} (hr : evK E (om E) 136 [] (Tryz.f136.body.getD .skip) (endK Tryz.prog Tryz.f136.results.toList (pureFin lent)) (args ++ pois (12 - args.length)) [[]] = some r) : pureV E (om E) 136 lent args = some r := pureV_of (dyn := []) rfl (by rw [E_P]; exact Tryz.func136) (by unfold Tryz.f136; rfl) (by kernel_rfl) (by rw [Tryz.ntmps136]; exact hr)
@[simp] theorem call_136 (args : List V) (h : Heap) : callV E (om E) 136 args h = (viewArgs h args).bind fun a => (pureV E (om E) 136 (!V.flatL args) a).map fun r => (r, h) := callV_pure rfl rfl args h

attribute [simp] Tryz.results137
theorem pu_137 {lent : Bool} {args : List V} {r : V} (hr : evK E (om E) 137 [] (Tryz.f137.body.getD .skip) (endK Tryz.prog Tryz.f137.results.toList (pureFin lent)) (args ++ pois (10 - args.length)) [[]] = some r) : pureV E (om E) 137 lent args = some r := pureV_of (dyn := []) rfl (by rw [E_P]; exact Tryz.func137) (by unfold Tryz.f137; rfl) (by kernel_rfl) (by rw [Tryz.ntmps137]; exact hr)
@[simp] theorem call_137 (args : List V) (h : Heap) : callV E (om E) 137 args h = (viewArgs h args).bind fun a => (pureV E (om E) 137 (!V.flatL args) a).map fun r => (r, h) := callV_pure rfl rfl args h

attribute [simp] Tryz.results138
theorem pu_138 {lent : Bool} {args : List V} {r : V} (hr : evK E (om E) 138 [] (Tryz.f138.body.getD .skip) (endK Tryz.prog Tryz.f138.results.toList (pureFin lent)) (args ++ pois (32 - args.length)) [[]] = some r) : pureV E (om E) 138 lent args = some r := pureV_of (dyn := []) rfl (by rw [E_P]; exact Tryz.func138) (by unfold Tryz.f138; rfl) (by kernel_rfl) (by rw [Tryz.ntmps138]; exact hr)
@[simp] theorem call_138 (args : List V) (h : Heap) : callV E (om E) 138 args h = (viewArgs h args).bind fun a => (pureV E (om E) 138 (!V.flatL args) a).map fun r => (r, h) := callV_pure rfl rfl args h
@[simp] theorem hint_138_0 : E.hint 138 2 = [.forget 2, .forget 3, .forget 4, .forget 5, .forget 6, .forget 7, .forget 8, .forget 12, .forget 13, .forget 14, .forget 15, .forget 16, .forget 17, .forget 18, .forget 19, .forget 20, .forget 21, .forget 22, .forget 23, .forget 24, .forget 25, .forget 26, .forget 27, .forget 28, .forget 29, .forget 30, .forget 31] := rfl
@[simp] theorem hint_138_1 : E.hint 138 5 = [.forget 2, .forget 3, .forget 4, .forget 7, .forget 8, .forget 21, .forget 22, .forget 23, .forget 24, .forget 25, .forget 26, .forget 27, .forget 28, .forget 29, .forget 30] := rfl

attribute [simp] Tryz.results139
theorem pu_139 {lent : Bool} {args : List V} {r : V} (hr : evK E (om E) 139 [] (Tryz.f139.body.getD .skip) (endK Tryz.prog Tryz.f139.results.toList (pureFin lent)) (args ++ pois (36 - args.length)) [[]] = some r) : pureV E (om E) 139 lent args = some r := pureV_of (dyn := []) rfl (by rw [E_P]; exact Tryz.func139) (by unfold Tryz.f139; rfl) (by kernel_rfl) (by rw [Tryz.ntmps139]; exact hr)
@[simp] theorem call_139 (args : List V) (h : Heap) : callV E (om E) 139 args h = (viewArgs h args).bind fun a => (pureV E (om E) 139 (!V.flatL args) a).map fun r => (r, h) := callV_pure rfl rfl args h
@[simp] theorem hint_139_0 : E.hint 139 3 = [.forget 5, .forget 12, .forget 13, .forget 14, .forget 15, .forget 16, .forget 17, .forget 18, .forget 19, .forget 20, .forget 21, .forget 22] := rfl
@[simp] theorem hint_139_1 : E.hint 139 11 = [.promote 6 2, .forget 8, .forget 28, .forget 29, .forget 30, .forget 31, .forget 32, .forget 33, .forget 34] := rfl

attribute [simp] Tryz.results140
theorem pu_140 {lent : Bool} {args : List V} {r : V} (hr : evK E (om E) 140 [] (Tryz.f140.body.getD .skip) (endK Tryz.prog Tryz.f140.results.toList (pureFin lent)) (args ++ pois (10 - args.length)) [[]] = some r) : pureV E (om E) 140 lent args = some r := pureV_of (dyn := []) rfl (by rw [E_P]; exact Tryz.func140) (by unfold Tryz.f140; rfl) (by kernel_rfl) (by rw [Tryz.ntmps140]; exact hr)
@[simp] theorem call_140 (args : List V) (h : Heap) : callV E (om E) 140 args h = (viewArgs h args).bind fun a => (pureV E (om E) 140 (!V.flatL args) a).map fun r => (r, h) := callV_pure rfl rfl args h

attribute [simp] Tryz.results141
@[simp] theorem call_141 (args : List V) (h : Heap) : callV E (om E) 141 args h = cloneWL 140737488355328 1 args h := callV_known rfl args h

attribute [simp] Tryz.results142
theorem bo_142 {args : List V} {h : Heap} {r : V × Heap} (hr : evK E (om E) 142 [] (Tryz.f142.body.getD .skip) (endK Tryz.prog Tryz.f142.results.toList bodyFin) (args ++ pois (6 - args.length)) h = some r) : bodyV E (om E) 142 args h = some r := bodyV_of (dyn := []) rfl (by rw [E_P]; exact Tryz.func142) (by unfold Tryz.f142; rfl) (by kernel_rfl) (by rw [Tryz.ntmps142]; exact hr)
theorem call_142 (args : List V) (h : Heap) : callV E (om E) 142 args h = (bodyV E (om E) 142 (V.upL 1 args) ([] :: h)).bind fun x => some (V.out (Heap.top x.2.tail).length x.1, Heap.setTop x.2.tail (Heap.top x.2.tail ++ x.2.top.map (outBlk (Heap.top x.2.tail).length))) := callV_live rfl rfl args h

attribute [simp] Tryz.results143
theorem bo_143 {args : List V} {h : Heap} {r : V × Heap} (hr : evK E (om E) 143 [] (Tryz.f143.body.getD .skip) (endK Tryz.prog Tryz.f143.results.toList bodyFin) (args ++ pois (8 - args.length)) h = some r) : bodyV E (om E) 143 args h = some r := bodyV_of (dyn := []) rfl (by rw [E_P]; exact Tryz.func143) (by unfold Tryz.f143; rfl) (by kernel_rfl) (by rw [Tryz.ntmps143]; exact hr)
theorem call_143 (args : List V) (h : Heap) : callV E (om E) 143 args h = (bodyV E (om E) 143 (V.upL 1 args) ([] :: h)).bind fun x => (V.freeze [x.2.top] x.1).bind fun r' => some (r', x.2.tail) := callV_heap rfl rfl args h

attribute [simp] Tryz.results144
theorem pu_144 {lent : Bool} {args : List V} {r : V} (hr : evK E (om E) 144 [] (Tryz.f144.body.getD .skip) (endK Tryz.prog Tryz.f144.results.toList (pureFin lent)) (args ++ pois (14 - args.length)) [[]] = some r) : pureV E (om E) 144 lent args = some r := pureV_of (dyn := []) rfl (by rw [E_P]; exact Tryz.func144) (by unfold Tryz.f144; rfl) (by kernel_rfl) (by rw [Tryz.ntmps144]; exact hr)
@[simp] theorem call_144 (args : List V) (h : Heap) : callV E (om E) 144 args h = (viewArgs h args).bind fun a => (pureV E (om E) 144 (!V.flatL args) a).map fun r => (r, h) := callV_pure rfl rfl args h

attribute [simp] Tryz.results145
theorem pu_145 {lent : Bool} {args : List V} {r : V} (hr : evK E (om E) 145 [] (Tryz.f145.body.getD .skip) (endK Tryz.prog Tryz.f145.results.toList (pureFin lent)) (args ++ pois (14 - args.length)) [[]] = some r) : pureV E (om E) 145 lent args = some r := pureV_of (dyn := []) rfl (by rw [E_P]; exact Tryz.func145) (by unfold Tryz.f145; rfl) (by kernel_rfl) (by rw [Tryz.ntmps145]; exact hr)
@[simp] theorem call_145 (args : List V) (h : Heap) : callV E (om E) 145 args h = (viewArgs h args).bind fun a => (pureV E (om E) 145 (!V.flatL args) a).map fun r => (r, h) := callV_pure rfl rfl args h
@[simp] theorem hint_145_0 : E.hint 145 3 = [.forget 5, .forget 6, .forget 7, .forget 8, .forget 9, .forget 10, .forget 11, .forget 12] := rfl

attribute [simp] Tryz.results146
theorem pu_146 {lent : Bool} {args : List V} {r : V} (hr : evK E (om E) 146 [] (Tryz.f146.body.getD .skip) (endK Tryz.prog Tryz.f146.results.toList (pureFin lent)) (args ++ pois (22 - args.length)) [[]] = some r) : pureV E (om E) 146 lent args = some r := pureV_of (dyn := []) rfl (by rw [E_P]; exact Tryz.func146) (by unfold Tryz.f146; rfl) (by kernel_rfl) (by rw [Tryz.ntmps146]; exact hr)
@[simp] theorem call_146 (args : List V) (h : Heap) : callV E (om E) 146 args h = (viewArgs h args).bind fun a => (pureV E (om E) 146 (!V.flatL args) a).map fun r => (r, h) := callV_pure rfl rfl args h
@[simp] theorem hint_146_0 : E.hint 146 3 = [.forget 4, .forget 7, .forget 8, .forget 9, .forget 10, .forget 11, .forget 12, .forget 13, .forget 14, .forget 15, .forget 16, .forget 17, .forget 18, .forget 19] := rfl

attribute [simp] Tryz.results147
theorem pu_147 {lent : Bool} {args : List V} {r : V} (hr : evK E (om E) 147 [] (Tryz.f147.body.getD .skip) (endK Tryz.prog Tryz.f147.results.toList (pureFin lent)) (args ++ pois (12 - args.length)) [[]] = some r) : pureV E (om E) 147 lent args = some r := pureV_of (dyn := []) rfl (by rw [E_P]; exact Tryz.func147) (by unfold Tryz.f147; rfl) (by kernel_rfl) (by rw [Tryz.ntmps147]; exact hr)
@[simp] theorem call_147 (args : List V) (h : Heap) : callV E (om E) 147 args h = (viewArgs h args).bind fun a => (pureV E (om E) 147 (!V.flatL args) a).map fun r => (r, h) := callV_pure rfl rfl args h

attribute [simp] Tryz.results148
theorem pu_148 {lent : Bool} {args : List V} {r : V} (hr : evK E (om E) 148 [] (Tryz.f148.body.getD .skip) (endK Tryz.prog Tryz.f148.results.toList (pureFin lent)) (args ++ pois (11 - args.length)) [[]] = some r) : pureV E (om E) 148 lent args = some r := pureV_of (dyn := []) rfl (by rw [E_P]; exact Tryz.func148) (by unfold Tryz.f148; rfl) (by kernel_rfl) (by rw [Tryz.ntmps148]; exact hr)
@[simp] theorem call_148 (args : List V) (h : Heap) : callV E (om E) 148 args h = (viewArgs h args).bind fun a => (pureV E (om E) 148 (!V.flatL args) a).map fun r => (r, h) := callV_pure rfl rfl args h

attribute [simp] Tryz.results149
theorem pu_149 {lent : Bool} {args : List V} {r : V} (hr : evK E (om E) 149 [] (Tryz.f149.body.getD .skip) (endK Tryz.prog Tryz.f149.results.toList (pureFin lent)) (args ++ pois (10 - args.length)) [[]] = some r) : pureV E (om E) 149 lent args = some r := pureV_of (dyn := []) rfl (by rw [E_P]; exact Tryz.func149) (by unfold Tryz.f149; rfl) (by kernel_rfl) (by rw [Tryz.ntmps149]; exact hr)
@[simp] theorem call_149 (args : List V) (h : Heap) : callV E (om E) 149 args h = (viewArgs h args).bind fun a => (pureV E (om E) 149 (!V.flatL args) a).map fun r => (r, h) := callV_pure rfl rfl args h

attribute [simp] Tryz.results150
theorem pu_150 {lent : Bool} {args : List V} {r : V} (hr : evK E (om E) 150 [] (Tryz.f150.body.getD .skip) (endK Tryz.prog Tryz.f150.results.toList (pureFin lent)) (args ++ pois (29 - args.length)) [[]] = some r) : pureV E (om E) 150 lent args = some r := pureV_of (dyn := []) rfl (by rw [E_P]; exact Tryz.func150) (by unfold Tryz.f150; rfl) (by kernel_rfl) (by rw [Tryz.ntmps150]; exact hr)
@[simp] theorem call_150 (args : List V) (h : Heap) : callV E (om E) 150 args h = (viewArgs h args).bind fun a => (pureV E (om E) 150 (!V.flatL args) a).map fun r => (r, h) := callV_pure rfl rfl args h
@[simp] theorem hint_150_0 : E.hint 150 2 = [.forget 2, .forget 3, .forget 4, .forget 6, .forget 7, .forget 8, .forget 9, .forget 10, .forget 11, .forget 12, .forget 13, .forget 14, .forget 15, .forget 16, .forget 17, .forget 18, .forget 19, .forget 20, .forget 21, .forget 22, .forget 23, .forget 24, .forget 25, .forget 26, .forget 27, .forget 28] := rfl
@[simp] theorem hint_150_1 : E.hint 150 5 = [.forget 2, .forget 3, .forget 4, .forget 13, .forget 14, .forget 15, .forget 16, .forget 17, .forget 18, .forget 19, .forget 20, .forget 21, .forget 22, .forget 23, .forget 24, .forget 25, .forget 26, .forget 27, .forget 28] := rfl

attribute [simp] Tryz.results151
theorem pu_151 {lent : Bool} {args : List V} {r : V} (hr : evK E (om E) 151 [] (Tryz.f151.body.getD .skip) (endK Tryz.prog Tryz.f151.results.toList (pureFin lent)) (args ++ pois (10 - args.length)) [[]] = some r) : pureV E (om E) 151 lent args = some r := pureV_of (dyn := []) rfl (by rw [E_P]; exact Tryz.func151) (by unfold Tryz.f151; rfl) (by kernel_rfl) (by rw [Tryz.ntmps151]; exact hr)
@[simp] theorem call_151 (args : List V) (h : Heap) : callV E (om E) 151 args h = (viewArgs h args).bind fun a => (pureV E (om E) 151 (!V.flatL args) a).map fun r => (r, h) := callV_pure rfl rfl args h

attribute [simp] Tryz.results152
theorem pu_152 {lent : Bool} {args : List V} {r : V} (hr : evK E (om E) 152 [] (Tryz.f152.body.getD .skip) (endK Tryz.prog Tryz.f152.results.toList (pureFin lent)) (args ++ pois (48 - args.length)) [[]] = some r) : pureV E (om E) 152 lent args = some r := pureV_of (dyn := []) rfl (by rw [E_P]; exact Tryz.func152) (by unfold Tryz.f152; rfl) (by kernel_rfl) (by rw [Tryz.ntmps152]; exact hr)
@[simp] theorem call_152 (args : List V) (h : Heap) : callV E (om E) 152 args h = (viewArgs h args).bind fun a => (pureV E (om E) 152 (!V.flatL args) a).map fun r => (r, h) := callV_pure rfl rfl args h
@[simp] theorem hint_152_0 : E.hint 152 4 = [.promote 6 1, .promote 7 2, .forget 2, .forget 3, .forget 4, .forget 5, .forget 9, .forget 10, .forget 11, .forget 12, .forget 13, .forget 14, .forget 15, .forget 16, .forget 17, .forget 18, .forget 19, .forget 20, .forget 21, .forget 22, .forget 23, .forget 24, .forget 25, .forget 26, .forget 27, .forget 28, .forget 29, .forget 30, .forget 31, .forget 32, .forget 33, .forget 34, .forget 35, .forget 36, .forget 37, .forget 38, .forget 39, .forget 40, .forget 41, .forget 42, .forget 43, .forget 44, .forget 45] := rfl

attribute [simp] Tryz.results153
theorem pu_153 {lent : Bool} {args : List V} {r : V} (hr : evK E (om E) 153 [] (Tryz.f153.body.getD .skip) (endK Tryz.prog Tryz.f153.results.toList (pureFin lent)) (args ++ pois (22 - args.length)) [[]] = some r) : pureV E (om E) 153 lent args = some r := pureV_of (dyn := []) rfl (by rw [E_P]; exact Tryz.func153) (by unfold Tryz.f153; rfl) (by kernel_rfl) (by rw [Tryz.ntmps153]; exact hr)
@[simp] theorem call_153 (args : List V) (h : Heap) : callV E (om E) 153 args h = (viewArgs h args).bind fun a => (pureV E (om E) 153 (!V.flatL args) a).map fun r => (r, h) := callV_pure rfl rfl args h

attribute [simp] Tryz.results154
theorem pu_154 {lent : Bool} {args : List V} {r : V} (hr : evK E (om E) 154 [] (Tryz.f154.body.getD .skip) (endK Tryz.prog Tryz.f154.results.toList (pureFin lent)) (args ++ pois (16 - args.length)) [[]] = some r) : pureV E (om E) 154 lent args = some r := pureV_of (dyn := []) rfl (by rw [E_P]; exact Tryz.func154) (by unfold Tryz.f154; rfl) (by kernel_rfl) (by rw [Tryz.ntmps154]; exact hr)
@[simp] theorem call_154 (args : List V) (h : Heap) : callV E (om E) 154 args h = (viewArgs h args).bind fun a => (pureV E (om E) 154 (!V.flatL args) a).map fun r => (r, h) := callV_pure rfl rfl args h

attribute [simp] Tryz.results155
theorem pu_155 {lent : Bool} {args : List V} {r : V} (hr : evK E (om E) 155 [] (Tryz.f155.body.getD .skip) (endK Tryz.prog Tryz.f155.results.toList (pureFin lent)) (args ++ pois (17 - args.length)) [[]] = some r) : pureV E (om E) 155 lent args = some r := pureV_of (dyn := []) rfl (by rw [E_P]; exact Tryz.func155) (by unfold Tryz.f155; rfl) (by kernel_rfl) (by rw [Tryz.ntmps155]; exact hr)
@[simp] theorem call_155 (args : List V) (h : Heap) : callV E (om E) 155 args h = (viewArgs h args).bind fun a => (pureV E (om E) 155 (!V.flatL args) a).map fun r => (r, h) := callV_pure rfl rfl args h

attribute [simp] Tryz.results156
theorem pu_156 {lent : Bool} {args : List V} {r : V} (hr : evK E (om E) 156 [] (Tryz.f156.body.getD .skip) (endK Tryz.prog Tryz.f156.results.toList (pureFin lent)) (args ++ pois (15 - args.length)) [[]] = some r) : pureV E (om E) 156 lent args = some r := pureV_of (dyn := []) rfl (by rw [E_P]; exact Tryz.func156) (by unfold Tryz.f156; rfl) (by kernel_rfl) (by rw [Tryz.ntmps156]; exact hr)
@[simp] theorem call_156 (args : List V) (h : Heap) : callV E (om E) 156 args h = (viewArgs h args).bind fun a => (pureV E (om E) 156 (!V.flatL args) a).map fun r => (r, h) := callV_pure rfl rfl args h

attribute [simp] Tryz.results157
theorem pu_157 {lent : Bool} {args : List V} {r : V} (hr : evK E (om E) 157 [] (Tryz.f157.body.getD .skip) (endK Tryz.prog Tryz.f157.results.toList (pureFin lent)) (args ++ pois (29 - args.length)) [[]] = some r) : pureV E (om E) 157 lent args = some r := pureV_of (dyn := []) rfl (by rw [E_P]; exact Tryz.func157) (by unfold Tryz.f157; rfl) (by kernel_rfl) (by rw [Tryz.ntmps157]; exact hr)
@[simp] theorem call_157 (args : List V) (h : Heap) : callV E (om E) 157 args h = (viewArgs h args).bind fun a => (pureV E (om E) 157 (!V.flatL args) a).map fun r => (r, h) := callV_pure rfl rfl args h

attribute [simp] Tryz.results158
theorem bo_158 {args : List V} {h : Heap} {r : V × Heap} (hr : evK E (om E) 158 [] (Tryz.f158.body.getD .skip) (endK Tryz.prog Tryz.f158.results.toList bodyFin) (args ++ pois (48 - args.length)) h = some r) : bodyV E (om E) 158 args h = some r := bodyV_of (dyn := []) rfl (by rw [E_P]; exact Tryz.func158) (by unfold Tryz.f158; rfl) (by kernel_rfl) (by rw [Tryz.ntmps158]; exact hr)
theorem call_158 (args : List V) (h : Heap) : callV E (om E) 158 args h = (viewArgs h args).bind fun args' => (bodyV E (om E) 158 args' [[]]).bind fun x => if !V.flatL args && !V.own x.2 x.1 then some (V.out h.top.length (V.strip x.1), h.setTop (h.top ++ (x.2.top.map stripBlk).map (outBlk h.top.length))) else some (V.out h.top.length x.1, h.setTop (h.top ++ x.2.top.map (outBlk h.top.length))) := callV_own rfl rfl args h
@[simp] theorem hint_158_0 : E.hint 158 8 = [.forget 34, .forget 35, .forget 36, .forget 37, .forget 38, .forget 39, .forget 40, .forget 41, .forget 42, .forget 43, .forget 44, .forget 45, .forget 46] := rfl

attribute [simp] Tryz.results159
theorem pu_159 {lent : Bool} {args : List V} {r : V} (hr : evK E (om E) 159 [] (Tryz.f159.body.getD .skip) (endK Tryz.prog Tryz.f159.results.toList (pureFin lent)) (args ++ pois (4 - args.length)) [[]] = some r) : pureV E (om E) 159 lent args = some r := pureV_of (dyn := []) rfl (by rw [E_P]; exact Tryz.func159) (by unfold Tryz.f159; rfl) (by kernel_rfl) (by rw [Tryz.ntmps159]; exact hr)
@[simp] theorem call_159 (args : List V) (h : Heap) : callV E (om E) 159 args h = (viewArgs h args).bind fun a => (pureV E (om E) 159 (!V.flatL args) a).map fun r => (r, h) := callV_pure rfl rfl args h

attribute [simp] Tryz.results160
theorem bo_160 {args : List V} {h : Heap} {r : V × Heap} (hr : evK E (om E) 160 [6] (Tryz.f160.body.getD .skip) (endK Tryz.prog Tryz.f160.results.toList bodyFin) (args ++ pois (109 - args.length)) h = some r) : bodyV E (om E) 160 args h = some r := bodyV_of (dyn := [6]) rfl (by rw [E_P]; exact Tryz.func160) (by unfold Tryz.f160; rfl) (by kernel_rfl) (by rw [Tryz.ntmps160]; exact hr)
theorem call_160 (args : List V) (h : Heap) : callV E (om E) 160 args h = (bodyV E (om E) 160 (V.upL 1 args) ([] :: h)).bind fun x => (V.freeze [x.2.top] x.1).bind fun r' => some (r', x.2.tail) := callV_heap rfl rfl args h
@[simp] theorem hint_160_0 : E.hint 160 4 = [.forget 13, .forget 14, .forget 15, .forget 17, .forget 24, .forget 25, .forget 26, .forget 27, .forget 28, .forget 29, .forget 30, .forget 31, .forget 32, .forget 33, .forget 34, .forget 35, .forget 36, .forget 37, .forget 38, .forget 39, .forget 40, .forget 41, .forget 42, .forget 43, .forget 44, .forget 45, .forget 46, .forget 47, .forget 48, .forget 49, .forget 50, .forget 51, .forget 52, .forget 53, .forget 54, .forget 55, .forget 56, .forget 57, .forget 58, .forget 59, .forget 60, .forget 61, .forget 62, .forget 63, .forget 64, .forget 65, .forget 66, .forget 67, .forget 68, .forget 69, .forget 70, .forget 71, .forget 72, .forget 73, .forget 74, .forget 75, .forget 76, .forget 77, .forget 78, .forget 79, .forget 80, .forget 81, .forget 82, .forget 83, .forget 84, .forget 85, .forget 86, .forget 87, .forget 88, .forget 89, .forget 90, .forget 91, .forget 92, .forget 93, .forget 94, .forget 95, .forget 96, .forget 97, .forget 98, .forget 99, .forget 100, .forget 101, .forget 102, .forget 103] := rfl
@[simp] theorem hint_160_1 : E.hint 160 16 = [.forget 17, .forget 72, .forget 73, .forget 74, .forget 75, .forget 76, .forget 77, .forget 78, .forget 79, .forget 80, .forget 81, .forget 82, .forget 83, .forget 84, .forget 85, .forget 86, .forget 87, .forget 88, .forget 89, .forget 90, .forget 91, .forget 92, .forget 93, .forget 94, .forget 95, .forget 96, .forget 97, .forget 98, .forget 99, .forget 100, .forget 101, .forget 102, .forget 103] := rfl

attribute [simp] Tryz.results161
theorem bo_161 {args : List V} {h : Heap} {r : V × Heap} (hr : evK E (om E) 161 [] (Tryz.f161.body.getD .skip) (endK Tryz.prog Tryz.f161.results.toList bodyFin) (args ++ pois (27 - args.length)) h = some r) : bodyV E (om E) 161 args h = some r := bodyV_of (dyn := []) rfl (by rw [E_P]; exact Tryz.func161) (by unfold Tryz.f161; rfl) (by kernel_rfl) (by rw [Tryz.ntmps161]; exact hr)
theorem call_161 (args : List V) (h : Heap) : callV E (om E) 161 args h = (bodyV E (om E) 161 (V.upL 1 args) ([] :: h)).bind fun x => some (V.out (Heap.top x.2.tail).length x.1, Heap.setTop x.2.tail (Heap.top x.2.tail ++ x.2.top.map (outBlk (Heap.top x.2.tail).length))) := callV_live rfl rfl args h

attribute [simp] Tryz.results162
theorem bo_162 {args : List V} {h : Heap} {r : V × Heap} (hr : evK E (om E) 162 [] (Tryz.f162.body.getD .skip) (endK Tryz.prog Tryz.f162.results.toList bodyFin) (args ++ pois (21 - args.length)) h = some r) : bodyV E (om E) 162 args h = some r := bodyV_of (dyn := []) rfl (by rw [E_P]; exact Tryz.func162) (by unfold Tryz.f162; rfl) (by kernel_rfl) (by rw [Tryz.ntmps162]; exact hr)
theorem call_162 (args : List V) (h : Heap) : callV E (om E) 162 args h = (bodyV E (om E) 162 (V.upL 1 args) ([] :: h)).bind fun x => (V.freeze [x.2.top] x.1).bind fun r' => some (r', x.2.tail) := callV_heap rfl rfl args h
@[simp] theorem hint_162_0 : E.hint 162 2 = [.promote 0 1, .forget 5, .forget 8, .forget 9, .forget 10, .forget 11, .forget 12, .forget 13, .forget 14, .forget 15, .forget 16, .forget 17, .forget 18, .forget 19] := rfl

attribute [simp] Tryz.results163
theorem bo_163 {args : List V} {h : Heap} {r : V × Heap} (hr : evK E (om E) 163 [] (Tryz.f163.body.getD .skip) (endK Tryz.prog Tryz.f163.results.toList bodyFin) (args ++ pois (21 - args.length)) h = some r) : bodyV E (om E) 163 args h = some r := bodyV_of (dyn := []) rfl (by rw [E_P]; exact Tryz.func163) (by unfold Tryz.f163; rfl) (by kernel_rfl) (by rw [Tryz.ntmps163]; exact hr)
theorem call_163 (args : List V) (h : Heap) : callV E (om E) 163 args h = (bodyV E (om E) 163 (V.upL 1 args) ([] :: h)).bind fun x => (V.freeze [x.2.top] x.1).bind fun r' => some (r', x.2.tail) := callV_heap rfl rfl args h
@[simp] theorem hint_163_0 : E.hint 163 2 = [.promote 0 1, .forget 5, .forget 8, .forget 9, .forget 10, .forget 11, .forget 12, .forget 13, .forget 14, .forget 15, .forget 16, .forget 17, .forget 18, .forget 19] := rfl

attribute [simp] Tryz.results164
theorem bo_164 {args : List V} {h : Heap} {r : V × Heap} (hr : evK E (om E) 164 [] (Tryz.f164.body.getD .skip) (endK Tryz.prog Tryz.f164.results.toList bodyFin) (args ++ pois (22 - args.length)) h = some r) : bodyV E (om E) 164 args h = some r := bodyV_of (dyn := []) rfl (by rw [E_P]; exact Tryz.func164) (by unfold Tryz.f164; rfl) (by kernel_rfl) (by rw [Tryz.ntmps164]; exact hr)
theorem call_164 (args : List V) (h : Heap) : callV E (om E) 164 args h = (viewArgs h args).bind fun args' => (bodyV E (om E) 164 args' [[]]).bind fun x => if !V.flatL args && !V.own x.2 x.1 then some (V.out h.top.length (V.strip x.1), h.setTop (h.top ++ (x.2.top.map stripBlk).map (outBlk h.top.length))) else some (V.out h.top.length x.1, h.setTop (h.top ++ x.2.top.map (outBlk h.top.length))) := callV_own rfl rfl args h

attribute [simp] Tryz.results165
theorem pu_165 {lent : Bool} {args : List V} {r : V} (hr : evK E (om E) 165 [] (Tryz.f165.body.getD .skip) (endK Tryz.prog Tryz.f165.results.toList (pureFin lent)) (args ++ pois (115 - args.length)) [[]] = some r) : pureV E (om E) 165 lent args = some r := pureV_of (dyn := []) rfl (by rw [E_P]; exact Tryz.func165) (by unfold Tryz.f165; rfl) (by kernel_rfl) (by rw [Tryz.ntmps165]; exact hr)
@[simp] theorem call_165 (args : List V) (h : Heap) : callV E (om E) 165 args h = (viewArgs h args).bind fun a => (pureV E (om E) 165 (!V.flatL args) a).map fun r => (r, h) := callV_pure rfl rfl args h

attribute [simp] Tryz.results166
theorem pu_166 {lent : Bool} {args : List V} {r : V} (hr : evK E (om E) 166 [] (Tryz.f166.body.getD .skip) (endK Tryz.prog Tryz.f166.results.toList (pureFin lent)) (args ++ pois (17 - args.length)) [[]] = some r) : pureV E (om E) 166 lent args = some r := pureV_of (dyn := []) rfl (by rw [E_P]; exact Tryz.func166) (by unfold Tryz.f166; rfl) (by kernel_rfl) (by rw [Tryz.ntmps166]; exact hr)
@[simp] theorem call_166 (args : List V) (h : Heap) : callV E (om E) 166 args h = (viewArgs h args).bind fun a => (pureV E (om E) 166 (!V.flatL args) a).map fun r => (r, h) := callV_pure rfl rfl args h

attribute [simp] Tryz.results167
theorem pu_167 {lent : Bool} {args : List V} {r : V} (hr : evK E (om E) 167 [] (Tryz.f167.body.getD .skip) (endK Tryz.prog Tryz.f167.results.toList (pureFin lent)) (args ++ pois (18 - args.length)) [[]] = some r) : pureV E (om E) 167 lent args = some r := pureV_of (dyn := []) rfl (by rw [E_P]; exact Tryz.func167) (by unfold Tryz.f167; rfl) (by kernel_rfl) (by rw [Tryz.ntmps167]; exact hr)
@[simp] theorem call_167 (args : List V) (h : Heap) : callV E (om E) 167 args h = (viewArgs h args).bind fun a => (pureV E (om E) 167 (!V.flatL args) a).map fun r => (r, h) := callV_pure rfl rfl args h
@[simp] theorem hint_167_0 : E.hint 167 1 = [.forget 5, .forget 6, .forget 7, .forget 8, .forget 9, .forget 10, .forget 11, .forget 12, .forget 13, .forget 14, .forget 15, .forget 16] := rfl

attribute [simp] Tryz.results168
theorem pu_168 {lent : Bool} {args : List V} {r : V} (hr : evK E (om E) 168 [] (Tryz.f168.body.getD .skip) (endK Tryz.prog Tryz.f168.results.toList (pureFin lent)) (args ++ pois (71 - args.length)) [[]] = some r) : pureV E (om E) 168 lent args = some r := pureV_of (dyn := []) rfl (by rw [E_P]; exact Tryz.func168) (by unfold Tryz.f168; rfl) (by kernel_rfl) (by rw [Tryz.ntmps168]; exact hr)
@[simp] theorem call_168 (args : List V) (h : Heap) : callV E (om E) 168 args h = (viewArgs h args).bind fun a => (pureV E (om E) 168 (!V.flatL args) a).map fun r => (r, h) := callV_pure rfl rfl args h

attribute [simp] Tryz.results169
theorem pu_169 {lent : Bool} {args : List V} {r : V} (hr : evK E (om E) 169 [] (Tryz.f169.body.getD .skip) (endK Tryz.prog Tryz.f169.results.toList (pureFin lent)) (args ++ pois (33 - args.length)) [[]] = some r) : pureV E (om E) 169 lent args = some r := pureV_of (dyn := []) rfl (by rw [E_P]; exact Tryz.func169) (by unfold Tryz.f169; rfl) (by kernel_rfl) (by rw [Tryz.ntmps169]; exact hr)
@[simp] theorem call_169 (args : List V) (h : Heap) : callV E (om E) 169 args h = (viewArgs h args).bind fun a => (pureV E (om E) 169 (!V.flatL args) a).map fun r => (r, h) := callV_pure rfl rfl args h
@[simp] theorem hint_169_0 : E.hint 169 3 = [.promote 5 1, .forget 7, .forget 8, .forget 9, .forget 10, .forget 11, .forget 12, .forget 13, .forget 14, .forget 15, .forget 16, .forget 17, .forget 18, .forget 19, .forget 20, .forget 21, .forget 22, .forget 23, .forget 24, .forget 25, .forget 26, .forget 27, .forget 28, .forget 29, .forget 30, .forget 31] := rfl
@[simp] theorem hint_169_1 : E.hint 169 7 = [.promote 5 1, .forget 19, .forget 20, .forget 21, .forget 22, .forget 23, .forget 24, .forget 25, .forget 26, .forget 27, .forget 28, .forget 29, .forget 30, .forget 31] := rfl

attribute [simp] Tryz.results170
theorem pu_170 {lent : Bool} {args : List V} {r : V} (hr : evK E (om E) 170 [] (Tryz.f170.body.getD .skip) (endK Tryz.prog Tryz.f170.results.toList (pureFin lent)) (args ++ pois (54 - args.length)) [[]] = some r) : pureV E (om E) 170 lent args = some r := pureV_of (dyn := []) rfl (by rw [E_P]; exact Tryz.func170) (by unfold Tryz.f170; rfl) (by kernel_rfl) (by rw [Tryz.ntmps170]; exact hr)
@[simp] theorem call_170 (args : List V) (h : Heap) : callV E (om E) 170 args h = (viewArgs h args).bind fun a => (pureV E (om E) 170 (!V.flatL args) a).map fun r => (r, h) := callV_pure rfl rfl args h
@[simp] theorem hint_170_0 : E.hint 170 5 = [.promote 10 1, .forget 22, .forget 23, .forget 24, .forget 25, .forget 26, .forget 27, .forget 28, .forget 29, .forget 30, .forget 31, .forget 32, .forget 33, .forget 34, .forget 35, .forget 36, .forget 37, .forget 38, .forget 39, .forget 40, .forget 41, .forget 42, .forget 43, .forget 44, .forget 45, .forget 46, .forget 47, .forget 48, .forget 49, .forget 50, .forget 51, .forget 52] := rfl

attribute [simp] Tryz.results171
theorem pu_171 {lent : Bool} {args : List V} {r : V} (hr : evK E (om E) 171 [] (Tryz.f171.body.getD .skip) (endK Tryz.prog Tryz.f171.results.toList (pureFin lent)) (args ++ pois (54 - args.length)) [[]] = some r) : pureV E (om E) 171 lent args = some r := pureV_of (dyn := []) rfl (by rw [E_P]; exact Tryz.func171) (by unfold Tryz.f171; rfl) (by kernel_rfl) (by rw [Tryz.ntmps171]; exact hr)
@[simp] theorem call_171 (args : List V) (h : Heap) : callV E (om E) 171 args h = (viewArgs h args).bind fun a => (pureV E (om E) 171 (!V.flatL args) a).map fun r => (r, h) := callV_pure rfl rfl args h
@[simp] theorem hint_171_0 : E.hint 171 3 = [.forget 9, .forget 13, .forget 14, .forget 15, .forget 16, .forget 17, .forget 18, .forget 19, .forget 20, .forget 21, .forget 22, .forget 23, .forget 24, .forget 25, .forget 26, .forget 27, .forget 28, .forget 29, .forget 30] := rfl

attribute [simp] Tryz.results172
theorem pu_172 {lent : Bool} {args : List V} {r : V} (hr : evK E (om E) 172 [] (Tryz.f172.body.getD .skip) (endK Tryz.prog Tryz.f172.results.toList (pureFin lent)) (args ++ pois (29 - args.length)) [[]] = some r) : pureV E (om E) 172 lent args = some r := pureV_of (dyn := []) rfl (by rw [E_P]; exact Tryz.func172) (by unfold Tryz.f172; rfl) (by kernel_rfl) (by rw [Tryz.ntmps172]; exact hr)
@[simp] theorem call_172 (args : List V) (h : Heap) : callV E (om E) 172 args h = (viewArgs h args).bind fun a => (pureV E (om E) 172 (!V.flatL args) a).map fun r => (r, h) := callV_pure rfl rfl args h

attribute [simp] Tryz.results173
theorem bo_173 {args : List V} {h : Heap} {r : V × Heap} (hr : evK E (om E) 173 [] (Tryz.f173.body.getD .skip) (endK Tryz.prog Tryz.f173.results.toList bodyFin) (args ++ pois (27 - args.length)) h = some r) : bodyV E (om E) 173 args h = some r := bodyV_of (dyn := []) rfl (by rw [E_P]; exact Tryz.func173) (by unfold Tryz.f173; rfl) (by kernel_rfl) (by rw [Tryz.ntmps173]; exact hr)
theorem call_173 (args : List V) (h : Heap) : callV E (om E) 173 args h = (bodyV E (om E) 173 (V.upL 1 args) ([] :: h)).bind fun x => some (V.out (Heap.top x.2.tail).length x.1, Heap.setTop x.2.tail (Heap.top x.2.tail ++ x.2.top.map (outBlk (Heap.top x.2.tail).length))) := callV_live rfl rfl args h

attribute [simp] Tryz.results174
@[simp] theorem hint_174_0 : E.hint 174 2 = [.forget 6, .forget 7, .forget 8, .forget 9, .forget 10, .forget 11, .forget 12, .forget 13, .forget 14, .forget 15, .forget 16, .forget 17, .forget 18, .forget 19, .forget 20, .forget 21, .forget 22, .forget 23, .forget 24, .forget 25, .forget 26, .forget 27, .forget 28, .forget 29, .forget 30, .forget 31, .forget 32, .forget 33, .forget 34, .forget 35, .forget 36, .forget 37, .forget 38, .forget 39, .forget 40] := rfl

attribute [simp] Tryz.results175
theorem pu_175 {lent : Bool} {args : List V} {r : V} (hr : evK E (om E) 175 [13] (Tryz.f175.body.getD .skip) (endK Tryz.prog Tryz.f175.results.toList (pureFin lent)) (args ++ pois (64 - args.length)) [[]] = some r) : pureV E (om E) 175 lent args = some r := pureV_of (dyn := [13]) rfl (by rw [E_P]; exact Tryz.func175) (by unfold Tryz.f175; rfl) (by kernel_rfl) (by rw [Tryz.ntmps175]; exact hr)
@[simp] theorem call_175 (args : List V) (h : Heap) : callV E (om E) 175 args h = (viewArgs h args).bind fun a => (pureV E (om E) 175 (!V.flatL args) a).map fun r => (r, h) := callV_pure rfl rfl args h
@[simp] theorem hint_175_0 : E.hint 175 8 = [.forget 38, .forget 39, .forget 40, .forget 41, .forget 42, .forget 43, .forget 44, .forget 45, .forget 46, .forget 47, .forget 48, .forget 49, .forget 50, .forget 51, .forget 52, .forget 53] := rfl

attribute [simp] Tryz.results176
theorem pu_176 {lent : Bool} {args : List V} {r : V} (hr : evK E (om E) 176 [] (Tryz.f176.body.getD .skip) (endK Tryz.prog Tryz.f176.results.toList (pureFin lent)) (args ++ pois (15 - args.length)) [[]] = some r) : pureV E (om E) 176 lent args = some r := pureV_of (dyn := []) rfl (by rw [E_P]; exact Tryz.func176) (by unfold Tryz.f176; rfl) (by kernel_rfl) (by rw [Tryz.ntmps176]; exact hr)
@[simp] theorem call_176 (args : List V) (h : Heap) : callV E (om E) 176 args h = (viewArgs h args).bind fun a => (pureV E (om E) 176 (!V.flatL args) a).map fun r => (r, h) := callV_pure rfl rfl args h

attribute [simp] Tryz.results177
theorem pu_177 {lent : Bool} {args : List V} {r : V} (hr : evK E (om E) 177 [] (Tryz.f177.body.getD .skip) (endK Tryz.prog Tryz.f177.results.toList (pureFin lent)) (args ++ pois (29 - args.length)) [[]] = some r) : pureV E (om E) 177 lent args = some r := pureV_of (dyn := []) rfl (by rw [E_P]; exact Tryz.func177) (by unfold Tryz.f177; rfl) (by kernel_rfl) (by rw [Tryz.ntmps177]; exact hr)
@[simp] theorem call_177 (args : List V) (h : Heap) : callV E (om E) 177 args h = (viewArgs h args).bind fun a => (pureV E (om E) 177 (!V.flatL args) a).map fun r => (r, h) := callV_pure rfl rfl args h

attribute [simp] Tryz.results178
theorem pu_178 {lent : Bool} {args : List V} {r : V} (hr : evK E (om E) 178 [13] (Tryz.f178.body.getD .skip) (endK Tryz.prog Tryz.f178.results.toList (pureFin lent)) (args ++ pois (60 - args.length)) [[]] = some r) : pureV E (om E) 178 lent args = some r := pureV_of (dyn := [13]) rfl (by rw [E_P]; exact Tryz.func178) (by unfold Tryz.f178; rfl) (by kernel_rfl) (by rw [Tryz.ntmps178]; exact hr)
@[simp] theorem call_178 (args : List V) (h : Heap) : callV E (om E) 178 args h = (viewArgs h args).bind fun a => (pureV E (om E) 178 (!V.flatL args) a).map fun r => (r, h) := callV_pure rfl rfl args h
@[simp] theorem hint_178_0 : E.hint 178 8 = [.forget 32, .forget 33, .forget 34, .forget 35, .forget 36, .forget 37, .forget 38, .forget 39, .forget 40, .forget 41, .forget 42, .forget 43, .forget 44, .forget 45] := rfl

attribute [simp] Tryz.results179
theorem pu_179 {lent : Bool} {args : List V} {r : V} (hr : evK E (om E) 179 [] (Tryz.f179.body.getD .skip) (endK Tryz.prog Tryz.f179.results.toList (pureFin lent)) (args ++ pois (26 - args.length)) [[]] = some r) : pureV E (om E) 179 lent args = some r := pureV_of (dyn := []) rfl (by rw [E_P]; exact Tryz.func179) (by unfold Tryz.f179; rfl) (by kernel_rfl) (by rw [Tryz.ntmps179]; exact hr)
@[simp] theorem call_179 (args : List V) (h : Heap) : callV E (om E) 179 args h = (viewArgs h args).bind fun a => (pureV E (om E) 179 (!V.flatL args) a).map fun r => (r, h) := callV_pure rfl rfl args h
@[simp] theorem hint_179_0 : E.hint 179 3 = [.forget 11, .forget 12, .forget 13, .forget 14, .forget 15, .forget 16, .forget 17, .forget 18, .forget 19, .forget 20, .forget 21, .forget 22, .forget 23, .forget 24] := rfl

attribute [simp] Tryz.results180
attribute [simp] Tryz.results181
theorem pu_181 {lent : Bool} {args : List V} {r : V} (hr : evK E (om E) 181 [] (Tryz.f181.body.getD .skip) (endK Tryz.prog Tryz.f181.results.toList (pureFin lent)) (args ++ pois (30 - args.length)) [[]] = some r) : pureV E (om E) 181 lent args = some r := pureV_of (dyn := []) rfl (by rw [E_P]; exact Tryz.func181) (by unfold Tryz.f181; rfl) (by kernel_rfl) (by rw [Tryz.ntmps181]; exact hr)
@[simp] theorem call_181 (args : List V) (h : Heap) : callV E (om E) 181 args h = (viewArgs h args).bind fun a => (pureV E (om E) 181 (!V.flatL args) a).map fun r => (r, h) := callV_pure rfl rfl args h

attribute [simp] Tryz.results182
theorem he_182 {args : List V} {h : Heap} {r : V × Heap} (hr : evK E (om E) 182 [] (Tryz.f182.body.getD .skip) (endK Tryz.prog Tryz.f182.results.toList heapFin) (V.upL 1 args ++ pois (23 - (V.upL 1 args).length)) ([] :: h) = some r) : callV E (om E) 182 args h = some r := heap_of (dyn := []) rfl rfl rfl (by rw [E_P]; exact Tryz.func182) (by unfold Tryz.f182; rfl) (by kernel_rfl) (by rw [Tryz.ntmps182]; exact hr)
@[simp] theorem hint_182_0 : E.hint 182 2 = [.forget 3, .forget 4, .forget 13, .forget 14, .forget 15, .forget 16, .forget 17, .forget 18, .forget 19, .forget 20, .forget 21, .forget 22] := rfl

attribute [simp] Tryz.results183
theorem pu_183 {lent : Bool} {args : List V} {r : V} (hr : evK E (om E) 183 [] (Tryz.f183.body.getD .skip) (endK Tryz.prog Tryz.f183.results.toList (pureFin lent)) (args ++ pois (5 - args.length)) [[]] = some r) : pureV E (om E) 183 lent args = some r := pureV_of (dyn := []) rfl (by rw [E_P]; exact Tryz.func183) (by unfold Tryz.f183; rfl) (by kernel_rfl) (by rw [Tryz.ntmps183]; exact hr)
@[simp] theorem call_183 (args : List V) (h : Heap) : callV E (om E) 183 args h = (viewArgs h args).bind fun a => (pureV E (om E) 183 (!V.flatL args) a).map fun r => (r, h) := callV_pure rfl rfl args h

attribute [simp] Tryz.results184
theorem bo_184 {args : List V} {h : Heap} {r : V × Heap} (hr : evK E (om E) 184 [] (Tryz.f184.body.getD .skip) (endK Tryz.prog Tryz.f184.results.toList bodyFin) (args ++ pois (15 - args.length)) h = some r) : bodyV E (om E) 184 args h = some r := bodyV_of (dyn := []) rfl (by rw [E_P]; exact Tryz.func184) (by unfold Tryz.f184; rfl) (by kernel_rfl) (by rw [Tryz.ntmps184]; exact hr)
theorem call_184 (args : List V) (h : Heap) : callV E (om E) 184 args h = (bodyV E (om E) 184 (V.upL 1 args) ([] :: h)).bind fun x => (V.freeze [x.2.top] x.1).bind fun r' => some (r', x.2.tail) := callV_heap rfl rfl args h

attribute [simp] Tryz.results185
theorem pu_185 {lent : Bool} {args : List V} {r : V} (hr : evK E (om E) 185 [] (Tryz.f185.body.getD .skip) (endK Tryz.prog Tryz.f185.results.toList (pureFin lent)) (args ++ pois (20 - args.length)) [[]] = some r) : pureV E (om E) 185 lent args = some r := pureV_of (dyn := []) rfl (by rw [E_P]; exact Tryz.func185) (by unfold Tryz.f185; rfl) (by kernel_rfl) (by rw [Tryz.ntmps185]; exact hr)
@[simp] theorem call_185 (args : List V) (h : Heap) : callV E (om E) 185 args h = (viewArgs h args).bind fun a => (pureV E (om E) 185 (!V.flatL args) a).map fun r => (r, h) := callV_pure rfl rfl args h

attribute [simp] Tryz.results186
theorem pu_186 {lent : Bool} {args : List V} {r : V} (hr : evK E (om E) 186 [] (Tryz.f186.body.getD .skip) (endK Tryz.prog Tryz.f186.results.toList (pureFin lent)) (args ++ pois (58 - args.length)) [[]] = some r) : pureV E (om E) 186 lent args = some r := pureV_of (dyn := []) rfl (by rw [E_P]; exact Tryz.func186) (by unfold Tryz.f186; rfl) (by kernel_rfl) (by rw [Tryz.ntmps186]; exact hr)
@[simp] theorem call_186 (args : List V) (h : Heap) : callV E (om E) 186 args h = (viewArgs h args).bind fun a => (pureV E (om E) 186 (!V.flatL args) a).map fun r => (r, h) := callV_pure rfl rfl args h

attribute [simp] Tryz.results187
theorem bo_187 {args : List V} {h : Heap} {r : V × Heap} (hr : evK E (om E) 187 [] (Tryz.f187.body.getD .skip) (endK Tryz.prog Tryz.f187.results.toList bodyFin) (args ++ pois (12 - args.length)) h = some r) : bodyV E (om E) 187 args h = some r := bodyV_of (dyn := []) rfl (by rw [E_P]; exact Tryz.func187) (by unfold Tryz.f187; rfl) (by kernel_rfl) (by rw [Tryz.ntmps187]; exact hr)
theorem call_187 (args : List V) (h : Heap) : callV E (om E) 187 args h = (bodyV E (om E) 187 (V.upL 1 args) ([] :: h)).bind fun x => (V.freeze [x.2.top] x.1).bind fun r' => some (r', x.2.tail) := callV_heap rfl rfl args h

attribute [simp] Tryz.results188
theorem pu_188 {lent : Bool} {args : List V} {r : V} (hr : evK E (om E) 188 [] (Tryz.f188.body.getD .skip) (endK Tryz.prog Tryz.f188.results.toList (pureFin lent)) (args ++ pois (14 - args.length)) [[]] = some r) : pureV E (om E) 188 lent args = some r := pureV_of (dyn := []) rfl (by rw [E_P]; exact Tryz.func188) (by unfold Tryz.f188; rfl) (by kernel_rfl) (by rw [Tryz.ntmps188]; exact hr)
@[simp] theorem call_188 (args : List V) (h : Heap) : callV E (om E) 188 args h = (viewArgs h args).bind fun a => (pureV E (om E) 188 (!V.flatL args) a).map fun r => (r, h) := callV_pure rfl rfl args h
@[simp] theorem hint_188_0 : E.hint 188 3 = [.forget 5, .forget 6, .forget 7, .forget 8, .forget 9, .forget 10, .forget 11, .forget 12] := rfl

attribute [simp] Tryz.results189
attribute [simp] Tryz.results190
theorem pu_190 {lent : Bool} {args : List V} {r : V} (hr : evK E (om E) 190 [] (Tryz.f190.body.getD .skip) (endK Tryz.prog Tryz.f190.results.toList (pureFin lent)) (args ++ pois (31 - args.length)) [[]] = some r) : pureV E (om E) 190 lent args = some r := pureV_of (dyn := []) rfl (by rw [E_P]; exact Tryz.func190) (by unfold Tryz.f190; rfl) (by kernel_rfl) (by rw [Tryz.ntmps190]; exact hr)
@[simp] theorem call_190 (args : List V) (h : Heap) : callV E (om E) 190 args h = (viewArgs h args).bind fun a => (pureV E (om E) 190 (!V.flatL args) a).map fun r => (r, h) := callV_pure rfl rfl args h
@[simp] theorem hint_190_0 : E.hint 190 3 = [.promote 7 1, .forget 9, .forget 10, .forget 11, .forget 12, .forget 13, .forget 14, .forget 15, .forget 16, .forget 17, .forget 18, .forget 19, .forget 20, .forget 21, .forget 22, .forget 23, .forget 24, .forget 25, .forget 26, .forget 27, .forget 28, .forget 29] := rfl

attribute [simp] Tryz.results191
theorem pu_191 {lent : Bool} {args : List V} {r : V} (hr : evK E (om E) 191 [] (Tryz.f191.body.getD .skip) (endK Tryz.prog Tryz.f191.results.toList (pureFin lent)) (args ++ pois (28 - args.length)) [[]] = some r) : pureV E (om E) 191 lent args = some r := pureV_of (dyn := []) rfl (by rw [E_P]; exact Tryz.func191) (by unfold Tryz.f191; rfl) (by kernel_rfl) (by rw [Tryz.ntmps191]; exact hr)
@[simp] theorem call_191 (args : List V) (h : Heap) : callV E (om E) 191 args h = (viewArgs h args).bind fun a => (pureV E (om E) 191 (!V.flatL args) a).map fun r => (r, h) := callV_pure rfl rfl args h
@[simp] theorem hint_191_0 : E.hint 191 5 = [.forget 13, .forget 14, .forget 15, .forget 16, .forget 17, .forget 18, .forget 19, .forget 20, .forget 21, .forget 22, .forget 23, .forget 24, .forget 25, .forget 26] := rfl

attribute [simp] Tryz.results192
theorem pu_192 {lent : Bool} {args : List V} {r : V} (hr : evK E (om E) 192 [] (Tryz.f192.body.getD .skip) (endK Tryz.prog Tryz.f192.results.toList (pureFin lent)) (args ++ pois (17 - args.length)) [[]] = some r) : pureV E (om E) 192 lent args = some r := pureV_of (dyn := []) rfl (by rw [E_P]; exact Tryz.func192) (by unfold Tryz.f192; rfl) (by kernel_rfl) (by rw [Tryz.ntmps192]; exact hr)
@[simp] theorem call_192 (args : List V) (h : Heap) : callV E (om E) 192 args h = (viewArgs h args).bind fun a => (pureV E (om E) 192 (!V.flatL args) a).map fun r => (r, h) := callV_pure rfl rfl args h

attribute [simp] Tryz.results193
theorem pu_193 {lent : Bool} {args : List V} {r : V} (hr : evK E (om E) 193 [] (Tryz.f193.body.getD .skip) (endK Tryz.prog Tryz.f193.results.toList (pureFin lent)) (args ++ pois (6 - args.length)) [[]] = some r) : pureV E (om E) 193 lent args = some r := pureV_of (dyn := []) rfl (by rw [E_P]; exact Tryz.func193) (by unfold Tryz.f193; rfl) (by kernel_rfl) (by rw [Tryz.ntmps193]; exact hr)
@[simp] theorem call_193 (args : List V) (h : Heap) : callV E (om E) 193 args h = (viewArgs h args).bind fun a => (pureV E (om E) 193 (!V.flatL args) a).map fun r => (r, h) := callV_pure rfl rfl args h

attribute [simp] Tryz.results194
attribute [simp] Tryz.results195
theorem pu_195 {lent : Bool} {args : List V} {r : V} (hr : evK E (om E) 195 [] (Tryz.f195.body.getD .skip) (endK Tryz.prog Tryz.f195.results.toList (pureFin lent)) (args ++ pois (51 - args.length)) [[]] = some r) : pureV E (om E) 195 lent args = some r := pureV_of (dyn := []) rfl (by rw [E_P]; exact Tryz.func195) (by unfold Tryz.f195; rfl) (by kernel_rfl) (by rw [Tryz.ntmps195]; exact hr)
@[simp] theorem call_195 (args : List V) (h : Heap) : callV E (om E) 195 args h = (viewArgs h args).bind fun a => (pureV E (om E) 195 (!V.flatL args) a).map fun r => (r, h) := callV_pure rfl rfl args h

attribute [simp] Tryz.results196
theorem bo_196 {args : List V} {h : Heap} {r : V × Heap} (hr : evK E (om E) 196 [] (Tryz.f196.body.getD .skip) (endK Tryz.prog Tryz.f196.results.toList bodyFin) (args ++ pois (48 - args.length)) h = some r) : bodyV E (om E) 196 args h = some r := bodyV_of (dyn := []) rfl (by rw [E_P]; exact Tryz.func196) (by unfold Tryz.f196; rfl) (by kernel_rfl) (by rw [Tryz.ntmps196]; exact hr)
theorem call_196 (args : List V) (h : Heap) : callV E (om E) 196 args h = (bodyV E (om E) 196 (V.upL 1 args) ([] :: h)).bind fun x => (V.freeze [x.2.top] x.1).bind fun r' => some (r', x.2.tail) := callV_heap rfl rfl args h
@[simp] theorem hint_196_0 : E.hint 196 2 = [.forget 8, .forget 9, .forget 10, .forget 12, .forget 13, .forget 14, .forget 15, .forget 16, .forget 17, .forget 18, .forget 19, .forget 20, .forget 21, .forget 22, .forget 23, .forget 24, .forget 25, .forget 26, .forget 27, .forget 28, .forget 29, .forget 30, .forget 31, .forget 32, .forget 33, .forget 34, .forget 35, .forget 36, .forget 37, .forget 38, .forget 39, .forget 40, .forget 41, .forget 42, .forget 43, .forget 44] := rfl

attribute [simp] Tryz.results197
theorem bo_197 {args : List V} {h : Heap} {r : V × Heap} (hr : evK E (om E) 197 [] (Tryz.f197.body.getD .skip) (endK Tryz.prog Tryz.f197.results.toList bodyFin) (args ++ pois (61 - args.length)) h = some r) : bodyV E (om E) 197 args h = some r := bodyV_of (dyn := []) rfl (by rw [E_P]; exact Tryz.func197) (by unfold Tryz.f197; rfl) (by kernel_rfl) (by rw [Tryz.ntmps197]; exact hr)
theorem call_197 (args : List V) (h : Heap) : callV E (om E) 197 args h = (bodyV E (om E) 197 (V.upL 1 args) ([] :: h)).bind fun x => (V.freeze [x.2.top] x.1).bind fun r' => some (r', x.2.tail) := callV_heap rfl rfl args h
@[simp] theorem hint_197_0 : E.hint 197 4 = [.forget 2, .forget 4, .forget 5, .forget 10, .forget 11, .forget 12, .forget 13, .forget 14, .forget 15, .forget 16, .forget 17, .forget 18, .forget 19, .forget 20, .forget 21, .forget 22, .forget 23, .forget 24, .forget 25, .forget 26, .forget 27, .forget 28, .forget 29, .forget 30, .forget 31, .forget 32, .forget 33, .forget 34, .forget 35, .forget 36, .forget 37, .forget 38, .forget 39, .forget 40, .forget 41, .forget 42, .forget 43, .forget 44, .forget 45, .forget 46, .forget 47, .forget 48, .forget 49, .forget 50, .forget 51, .forget 52, .forget 53, .forget 54, .forget 55, .forget 56, .forget 57, .forget 58, .forget 59] := rfl
@[simp] theorem hint_197_1 : E.hint 197 9 = [.forget 29, .forget 30, .forget 31, .forget 32, .forget 33, .forget 34, .forget 35, .forget 36, .forget 37, .forget 38, .forget 39, .forget 40, .forget 41, .forget 42, .forget 43, .forget 44, .forget 45, .forget 46, .forget 47, .forget 48, .forget 49, .forget 50, .forget 51, .forget 52, .forget 53] := rfl

attribute [simp] Tryz.results198
theorem pu_198 {lent : Bool} {args : List V} {r : V} (hr : evK E (om E) 198 [] (Tryz.f198.body.getD .skip) (endK Tryz.prog Tryz.f198.results.toList (pureFin lent)) (args ++ pois (23 - args.length)) [[]] = some r) : pureV E (om E) 198 lent args = some r := pureV_of (dyn := []) rfl (by rw [E_P]; exact Tryz.func198) (by unfold Tryz.f198; rfl) (by kernel_rfl) (by rw [Tryz.ntmps198]; exact hr)
@[simp] theorem call_198 (args : List V) (h : Heap) : callV E (om E) 198 args h = (viewArgs h args).bind fun a => (pureV E (om E) 198 (!V.flatL args) a).map fun r => (r, h) := callV_pure rfl rfl args h

attribute [simp] Tryz.results199
theorem bo_199 {args : List V} {h : Heap} {r : V × Heap} (hr : evK E (om E) 199 [] (Tryz.f199.body.getD .skip) (endK Tryz.prog Tryz.f199.results.toList bodyFin) (args ++ pois (23 - args.length)) h = some r) : bodyV E (om E) 199 args h = some r := bodyV_of (dyn := []) rfl (by rw [E_P]; exact Tryz.func199) (by unfold Tryz.f199; rfl) (by kernel_rfl) (by rw [Tryz.ntmps199]; exact hr)
theorem call_199 (args : List V) (h : Heap) : callV E (om E) 199 args h = (bodyV E (om E) 199 (V.upL 1 args) ([] :: h)).bind fun x => (V.freeze [x.2.top] x.1).bind fun r' => some (r', x.2.tail) := callV_heap rfl rfl args h
@[simp] theorem hint_199_0 : E.hint 199 0 = [.forget 4, .forget 5, .forget 6, .forget 7, .forget 8, .forget 9, .forget 10, .forget 11, .forget 12, .forget 13, .forget 14, .forget 15, .forget 16, .forget 17, .forget 18, .forget 19, .forget 20, .forget 21, .forget 22] := rfl

attribute [simp] Tryz.results200
theorem pu_200 {lent : Bool} {args : List V} {r : V} (hr : evK E (om E) 200 [] (Tryz.f200.body.getD .skip) (endK Tryz.prog Tryz.f200.results.toList (pureFin lent)) (args ++ pois (6 - args.length)) [[]] = some r) : pureV E (om E) 200 lent args = some r := pureV_of (dyn := []) rfl (by rw [E_P]; exact Tryz.func200) (by unfold Tryz.f200; rfl) (by kernel_rfl) (by rw [Tryz.ntmps200]; exact hr)
@[simp] theorem call_200 (args : List V) (h : Heap) : callV E (om E) 200 args h = (viewArgs h args).bind fun a => (pureV E (om E) 200 (!V.flatL args) a).map fun r => (r, h) := callV_pure rfl rfl args h

attribute [simp] Tryz.results219
theorem pu_219 {lent : Bool} {args : List V} {r : V} (hr : evK E (om E) 219 [] (Tryz.f219.body.getD .skip) (endK Tryz.prog Tryz.f219.results.toList (pureFin lent)) (args ++ pois (16 - args.length)) [[]] = some r) : pureV E (om E) 219 lent args = some r := pureV_of (dyn := []) rfl (by rw [E_P]; exact Tryz.func219) (by unfold Tryz.f219; rfl) (by kernel_rfl) (by rw [Tryz.ntmps219]; exact hr)
@[simp] theorem call_219 (args : List V) (h : Heap) : callV E (om E) 219 args h = (viewArgs h args).bind fun a => (pureV E (om E) 219 (!V.flatL args) a).map fun r => (r, h) := callV_pure rfl rfl args h

attribute [simp] Tryz.results220
theorem bo_220 {args : List V} {h : Heap} {r : V × Heap} (hr : evK E (om E) 220 [] (Tryz.f220.body.getD .skip) (endK Tryz.prog Tryz.f220.results.toList bodyFin) (args ++ pois (27 - args.length)) h = some r) : bodyV E (om E) 220 args h = some r := bodyV_of (dyn := []) rfl (by rw [E_P]; exact Tryz.func220) (by unfold Tryz.f220; rfl) (by kernel_rfl) (by rw [Tryz.ntmps220]; exact hr)
theorem call_220 (args : List V) (h : Heap) : callV E (om E) 220 args h = (bodyV E (om E) 220 (V.upL 1 args) ([] :: h)).bind fun x => (V.freeze [x.2.top] x.1).bind fun r' => some (r', x.2.tail) := callV_heap rfl rfl args h

attribute [simp] Tryz.results221
theorem bo_221 {args : List V} {h : Heap} {r : V × Heap} (hr : evK E (om E) 221 [] (Tryz.f221.body.getD .skip) (endK Tryz.prog Tryz.f221.results.toList bodyFin) (args ++ pois (13 - args.length)) h = some r) : bodyV E (om E) 221 args h = some r := bodyV_of (dyn := []) rfl (by rw [E_P]; exact Tryz.func221) (by unfold Tryz.f221; rfl) (by kernel_rfl) (by rw [Tryz.ntmps221]; exact hr)
theorem call_221 (args : List V) (h : Heap) : callV E (om E) 221 args h = (bodyV E (om E) 221 (V.upL 1 args) ([] :: h)).bind fun x => (V.freeze [x.2.top] x.1).bind fun r' => some (r', x.2.tail) := callV_heap rfl rfl args h

attribute [simp] Tryz.results222
theorem bo_222 {args : List V} {h : Heap} {r : V × Heap} (hr : evK E (om E) 222 [] (Tryz.f222.body.getD .skip) (endK Tryz.prog Tryz.f222.results.toList bodyFin) (args ++ pois (20 - args.length)) h = some r) : bodyV E (om E) 222 args h = some r := bodyV_of (dyn := []) rfl (by rw [E_P]; exact Tryz.func222) (by unfold Tryz.f222; rfl) (by kernel_rfl) (by rw [Tryz.ntmps222]; exact hr)
theorem call_222 (args : List V) (h : Heap) : callV E (om E) 222 args h = (bodyV E (om E) 222 (V.upL 1 args) ([] :: h)).bind fun x => (V.freeze [x.2.top] x.1).bind fun r' => some (r', x.2.tail) := callV_heap rfl rfl args h
end Go.Proofs.YthiciofacaeddaaGreat
end
section
namespace Go.Proofs.YthiciofacaeddaaGreat
open Go Go.Sim
set_option maxRecDepth 100000
set_option linter.unusedVariables false
set_option linter.unusedSimpArgs false

theorem fnOk : FnOk E (fun _ => true) where
 frame := by
  intro g F hg hF
  exact absurd hg Bool.false_ne_true
 good := by
  have h : (Tryz.prog.funcs.toList.all fun fn => match fn.body with | none => true | some c => goodCode (fun _ => true) c && !(fn.name == "runtime.NumGoroutine")) = true := by kernel_rfl
  intro f fn c hf h1 h2
  rw [E_P] at h1
  have := List.all_eq_true.1 h fn (Array.mem_toList_iff.2 (Array.mem_of_getElem? h1))
  rw [h2] at this
  simpa using this
theorem eqOk : EqOk E := by
 have h : (E.eqTypes.all fun t => !Tryz.prog.stoodInHeld t && !Tryz.prog.eqGuardType Tryz.prog.depth t) = true := by kernel_rfl
 intro t ht
 have := List.all_eq_true.1 h t (by simpa using ht)
 simpa using this
theorem knownOk : KnownOk E (fun _ => true) := by
 intro f F hF
 change knownT f = some F at hF
 unfold knownT at hF
 split at hF
 ·obtain rfl := (Option.some.inj hF).symm
  exact known_105
 ·obtain rfl := (Option.some.inj hF).symm
  exact known_106
 ·obtain rfl := (Option.some.inj hF).symm
  exact known_107
 ·obtain rfl := (Option.some.inj hF).symm
  exact known_108
 ·obtain rfl := (Option.some.inj hF).symm
  exact known_141
 ·cases hF
theorem knownIn : KnownIn E := by
 intro f F hF
 change knownT f = some F at hF
 unfold knownT at hF
 split at hF
 ·exact ⟨Tryz.f105, Tryz.f105.body.getD .skip, Tryz.func105, by kernel_rfl, by simp [Tryz.f105]⟩
 ·exact ⟨Tryz.f106, Tryz.f106.body.getD .skip, Tryz.func106, by kernel_rfl, by simp [Tryz.f106]⟩
 ·exact ⟨Tryz.f107, Tryz.f107.body.getD .skip, Tryz.func107, by kernel_rfl, by simp [Tryz.f107]⟩
 ·exact ⟨Tryz.f108, Tryz.f108.body.getD .skip, Tryz.func108, by kernel_rfl, by simp [Tryz.f108]⟩
 ·exact ⟨Tryz.f141, Tryz.f141.body.getD .skip, Tryz.func141, by kernel_rfl, by simp [Tryz.f141]⟩
 ·cases hF
end Go.Proofs.YthiciofacaeddaaGreat
end
