/- Files of zeros in plain Lean: a load of another size says no. -/
import Derived.Test.YtmhbkilpllgchaaFtX
import Derived.Test.YtmhbkilpllgchaaFtU
import Derived.Test.YtmhbkilpllgchaaShaN
namespace Go.Proofs.Ytmhbkilpllgchaa
open Go.RowKit
set_option linter.unusedVariables false
set_option linter.unusedSectionVars false

/-- An object's digest, by its bytes. -/
def objN (l : List UInt8) : List UInt8 := shaN (0 :: (beL 4 l.length ++ l))
theorem objN_eq (s : ByteArray) (h : s.size ≤ 65536) : objH s = objN s.data.toList := by
  have hok : tagOk 0 [s] = true := by
    have := objOk_iff s
    rw [decide_eq_true h] at this
    exact this
  rw [objH, tagH, if_pos hok, shaN_eq, objN]
  congr 1
  show UInt8.ofNat 0 :: [s].flatMap partL = _
  rw [List.flatMap_cons, List.flatMap_nil, List.append_nil]
  rfl
def H64 : List UInt8 := [145, 189, 132, 7, 181, 159, 118, 223, 86, 81, 184, 210, 30, 181, 50, 128, 62, 64, 67, 54, 245, 175, 27, 13, 53, 122, 147, 184, 220, 130, 12, 38]
def HFl : List UInt8 := [144, 39, 166, 76, 151, 62, 12, 62, 229, 185, 173, 244, 215, 11, 126, 168, 13, 118, 95, 139, 220, 209, 94, 48, 3, 84, 232, 46, 101, 179, 124, 234]
/-- The digests of blocks of 1 to 64 zeros. -/
def HZ : List (List UInt8) := [
  [2, 62, 193, 133, 118, 130, 125, 243, 45, 198, 157, 86, 144, 116, 7, 51, 212, 157, 107, 130, 205, 160, 154, 193, 99, 35, 101, 125, 24, 186, 245, 21],
  [203, 203, 45, 40, 115, 232, 74, 133, 130, 243, 63, 10, 135, 247, 169, 29, 144, 192, 124, 157, 213, 122, 38, 117, 145, 155, 54, 125, 118, 142, 27, 193],
  [195, 69, 200, 51, 11, 213, 53, 15, 52, 40, 44, 88, 132, 44, 139, 26, 125, 208, 82, 225, 0, 68, 239, 133, 131, 19, 62, 108, 159, 190, 186, 216],
  [120, 153, 201, 212, 15, 120, 246, 200, 170, 18, 201, 102, 240, 81, 230, 40, 160, 151, 10, 199, 173, 188, 239, 123, 99, 214, 202, 171, 79, 4, 131, 22],
  [51, 82, 140, 155, 243, 209, 132, 61, 49, 140, 94, 156, 14, 254, 163, 239, 46, 14, 44, 210, 169, 80, 205, 255, 141, 170, 81, 197, 165, 156, 101, 105],
  [229, 196, 21, 250, 80, 164, 116, 51, 54, 238, 135, 65, 16, 191, 199, 52, 129, 182, 82, 10, 188, 212, 125, 17, 121, 157, 15, 86, 83, 121, 103, 122],
  [99, 4, 144, 2, 91, 10, 252, 80, 131, 240, 69, 22, 222, 107, 44, 87, 161, 79, 143, 238, 177, 245, 97, 36, 33, 112, 184, 169, 127, 238, 217, 1],
  [223, 108, 177, 19, 78, 172, 7, 168, 77, 6, 144, 229, 247, 65, 184, 157, 122, 1, 45, 187, 138, 71, 197, 58, 138, 73, 137, 169, 38, 40, 233, 105],
  [62, 7, 146, 240, 217, 210, 201, 224, 97, 220, 230, 87, 227, 81, 161, 145, 59, 193, 170, 201, 146, 236, 136, 246, 40, 250, 45, 117, 128, 45, 135, 85],
  [17, 137, 72, 37, 149, 63, 150, 162, 7, 170, 72, 169, 218, 80, 30, 35, 190, 206, 50, 228, 16, 111, 179, 222, 185, 49, 200, 10, 60, 95, 49, 107],
  [207, 103, 66, 139, 1, 99, 82, 60, 52, 113, 198, 223, 98, 156, 186, 123, 178, 85, 115, 65, 227, 248, 101, 33, 63, 12, 218, 188, 5, 249, 146, 156],
  [89, 65, 83, 221, 176, 65, 175, 62, 96, 105, 212, 77, 103, 140, 171, 241, 86, 131, 7, 56, 112, 165, 125, 175, 67, 245, 51, 206, 86, 169, 86, 214],
  [73, 175, 134, 119, 17, 81, 52, 10, 81, 17, 200, 231, 118, 103, 80, 73, 212, 223, 191, 149, 89, 127, 133, 17, 107, 216, 59, 75, 27, 214, 239, 126],
  [18, 182, 55, 226, 7, 118, 71, 186, 224, 85, 150, 128, 120, 236, 157, 82, 59, 15, 80, 105, 105, 75, 160, 184, 51, 83, 82, 67, 154, 17, 54, 150],
  [12, 182, 125, 214, 44, 174, 252, 202, 219, 241, 92, 191, 102, 255, 155, 173, 105, 0, 133, 235, 142, 130, 215, 107, 145, 137, 121, 154, 164, 53, 86, 68],
  [201, 251, 182, 196, 130, 66, 108, 15, 249, 253, 62, 223, 47, 248, 112, 210, 195, 39, 146, 140, 27, 126, 57, 95, 116, 201, 118, 31, 6, 250, 2, 155],
  [131, 14, 218, 59, 113, 93, 99, 84, 174, 103, 132, 175, 228, 245, 142, 175, 22, 46, 226, 101, 106, 80, 42, 90, 193, 37, 163, 41, 218, 131, 104, 53],
  [191, 87, 15, 123, 12, 169, 107, 106, 238, 206, 59, 237, 146, 188, 167, 232, 86, 155, 215, 192, 183, 94, 75, 85, 65, 130, 53, 28, 34, 35, 135, 95],
  [29, 178, 169, 138, 59, 125, 60, 157, 147, 43, 101, 86, 203, 103, 106, 224, 78, 224, 71, 223, 26, 212, 135, 24, 229, 247, 66, 156, 84, 83, 211, 40],
  [147, 16, 199, 159, 247, 145, 114, 154, 175, 60, 73, 36, 224, 141, 65, 83, 108, 28, 97, 86, 132, 8, 46, 43, 110, 118, 37, 59, 193, 235, 134, 98],
  [226, 97, 194, 115, 46, 3, 172, 88, 77, 91, 58, 131, 174, 249, 249, 242, 234, 196, 33, 13, 254, 76, 21, 229, 173, 130, 177, 183, 137, 81, 194, 134],
  [177, 76, 177, 106, 32, 116, 113, 103, 170, 107, 243, 39, 218, 61, 218, 250, 162, 105, 188, 188, 70, 87, 223, 209, 80, 101, 108, 160, 131, 202, 188, 234],
  [177, 221, 208, 59, 44, 175, 152, 201, 46, 26, 220, 7, 108, 187, 121, 174, 52, 125, 14, 164, 78, 155, 215, 135, 93, 95, 215, 54, 152, 34, 120, 163],
  [207, 161, 175, 125, 36, 58, 83, 57, 58, 112, 31, 51, 243, 38, 233, 32, 47, 218, 237, 98, 124, 129, 126, 30, 53, 169, 239, 103, 180, 48, 116, 74],
  [68, 90, 125, 225, 54, 131, 183, 77, 146, 29, 57, 147, 49, 196, 143, 233, 237, 249, 20, 83, 131, 59, 129, 81, 189, 140, 24, 83, 50, 51, 73, 202],
  [76, 176, 120, 104, 34, 41, 228, 62, 31, 112, 15, 254, 123, 209, 7, 213, 182, 110, 155, 71, 35, 188, 73, 186, 110, 58, 146, 60, 176, 185, 118, 108],
  [66, 52, 89, 43, 95, 175, 40, 50, 184, 232, 162, 69, 40, 72, 107, 249, 252, 233, 89, 247, 97, 69, 24, 219, 23, 86, 207, 136, 171, 206, 210, 192],
  [98, 186, 138, 117, 156, 155, 197, 134, 145, 181, 76, 163, 21, 188, 174, 225, 201, 195, 165, 63, 191, 133, 36, 150, 178, 25, 49, 155, 164, 238, 186, 66],
  [95, 254, 235, 177, 92, 102, 66, 242, 178, 98, 115, 69, 218, 48, 73, 20, 3, 247, 109, 135, 220, 171, 232, 214, 250, 94, 243, 37, 128, 161, 139, 97],
  [215, 126, 208, 168, 175, 237, 176, 201, 167, 129, 21, 239, 219, 64, 48, 224, 36, 136, 5, 5, 105, 199, 69, 48, 254, 144, 161, 5, 86, 195, 58, 84],
  [243, 195, 45, 176, 249, 87, 32, 12, 227, 144, 193, 249, 213, 109, 204, 205, 6, 181, 119, 207, 170, 106, 218, 236, 15, 198, 7, 102, 37, 19, 242, 67],
  [175, 33, 186, 245, 216, 12, 83, 29, 215, 156, 41, 63, 147, 176, 240, 242, 141, 241, 246, 245, 30, 95, 220, 103, 190, 71, 158, 245, 176, 167, 133, 108],
  [159, 67, 129, 59, 211, 15, 196, 171, 219, 110, 39, 194, 138, 47, 94, 94, 50, 214, 18, 103, 138, 17, 71, 26, 1, 176, 123, 53, 135, 115, 84, 119],
  [73, 74, 119, 48, 255, 8, 91, 231, 232, 128, 36, 101, 215, 170, 168, 149, 12, 84, 161, 79, 201, 36, 65, 54, 84, 218, 39, 150, 210, 168, 185, 160],
  [206, 216, 30, 100, 245, 191, 123, 7, 154, 70, 228, 69, 47, 1, 134, 97, 138, 230, 225, 2, 86, 75, 127, 250, 18, 248, 117, 99, 242, 204, 254, 102],
  [88, 120, 7, 217, 172, 194, 214, 131, 32, 93, 211, 226, 213, 68, 132, 133, 167, 92, 150, 116, 246, 223, 100, 211, 225, 196, 3, 17, 124, 166, 227, 35],
  [98, 106, 122, 134, 30, 52, 120, 153, 46, 170, 219, 35, 62, 103, 6, 237, 195, 157, 10, 150, 190, 115, 180, 137, 16, 1, 38, 226, 90, 140, 196, 30],
  [1, 38, 189, 172, 213, 191, 220, 176, 37, 132, 110, 252, 179, 133, 198, 20, 149, 134, 124, 188, 5, 196, 166, 183, 225, 85, 126, 123, 145, 38, 10, 79],
  [179, 70, 69, 255, 126, 2, 217, 69, 85, 1, 113, 164, 87, 201, 106, 152, 65, 116, 183, 217, 248, 211, 191, 45, 117, 193, 94, 96, 245, 16, 68, 178],
  [202, 155, 16, 125, 139, 40, 206, 58, 242, 156, 141, 144, 95, 92, 106, 169, 106, 205, 144, 225, 161, 47, 204, 79, 53, 163, 7, 223, 166, 64, 120, 146],
  [182, 119, 237, 196, 245, 23, 44, 16, 124, 230, 186, 237, 61, 90, 39, 243, 197, 218, 173, 19, 53, 1, 240, 146, 149, 25, 223, 193, 235, 109, 155, 56],
  [5, 242, 212, 145, 57, 169, 214, 203, 133, 29, 99, 212, 179, 219, 222, 153, 199, 41, 106, 69, 164, 122, 199, 11, 215, 147, 239, 230, 93, 152, 165, 43],
  [157, 12, 80, 5, 35, 118, 54, 96, 161, 32, 206, 191, 54, 80, 220, 144, 170, 95, 130, 198, 203, 59, 253, 144, 187, 222, 88, 66, 157, 123, 162, 197],
  [33, 211, 169, 245, 50, 52, 206, 25, 49, 205, 67, 146, 67, 65, 217, 136, 117, 73, 187, 109, 59, 77, 139, 214, 37, 47, 87, 123, 46, 186, 121, 230],
  [234, 78, 72, 85, 132, 84, 119, 209, 202, 244, 196, 31, 58, 117, 90, 89, 239, 56, 143, 218, 109, 212, 89, 46, 77, 14, 95, 231, 34, 157, 176, 140],
  [97, 227, 128, 242, 137, 171, 15, 196, 129, 86, 227, 18, 50, 236, 216, 219, 126, 235, 31, 253, 243, 58, 51, 229, 145, 96, 159, 16, 106, 130, 100, 55],
  [54, 6, 183, 199, 131, 3, 223, 228, 102, 245, 18, 182, 238, 234, 81, 40, 230, 236, 168, 252, 114, 191, 125, 12, 10, 31, 122, 136, 159, 231, 167, 115],
  [200, 202, 65, 219, 232, 115, 119, 92, 46, 28, 89, 102, 95, 8, 35, 107, 156, 190, 168, 247, 54, 38, 121, 26, 101, 249, 135, 216, 87, 233, 91, 105],
  [63, 203, 6, 231, 147, 196, 104, 188, 93, 232, 190, 132, 190, 89, 4, 163, 138, 224, 141, 166, 14, 114, 181, 233, 150, 2, 78, 81, 98, 126, 232, 78],
  [176, 140, 64, 211, 103, 27, 49, 30, 239, 101, 211, 166, 17, 116, 188, 90, 11, 156, 252, 156, 197, 5, 110, 65, 51, 111, 3, 185, 55, 98, 10, 197],
  [252, 111, 242, 10, 71, 17, 96, 173, 253, 232, 94, 77, 96, 182, 61, 8, 45, 177, 122, 181, 37, 191, 184, 15, 157, 59, 144, 143, 29, 125, 254, 226],
  [165, 226, 194, 231, 56, 75, 30, 219, 197, 216, 219, 58, 54, 11, 68, 92, 176, 246, 71, 171, 134, 136, 88, 136, 254, 135, 17, 228, 120, 255, 220, 190],
  [156, 126, 244, 202, 75, 0, 200, 129, 55, 179, 194, 211, 96, 241, 190, 126, 179, 182, 175, 127, 175, 63, 108, 185, 141, 224, 167, 36, 126, 241, 245, 73],
  [191, 87, 186, 205, 25, 62, 115, 194, 20, 122, 150, 216, 81, 36, 215, 251, 73, 70, 37, 220, 234, 86, 73, 196, 109, 250, 155, 26, 117, 21, 238, 238],
  [73, 34, 209, 173, 16, 55, 56, 130, 167, 151, 173, 145, 182, 168, 191, 177, 137, 249, 172, 167, 91, 76, 69, 103, 24, 171, 232, 135, 117, 66, 59, 125],
  [83, 175, 51, 78, 154, 114, 51, 84, 95, 140, 134, 157, 154, 169, 243, 179, 131, 22, 134, 196, 209, 113, 219, 147, 236, 35, 53, 213, 103, 196, 211, 107],
  [53, 30, 202, 16, 190, 10, 165, 48, 146, 124, 73, 104, 0, 254, 226, 69, 217, 63, 158, 127, 235, 94, 17, 214, 224, 83, 17, 96, 90, 240, 113, 101],
  [38, 52, 32, 22, 44, 126, 178, 239, 202, 90, 168, 142, 55, 79, 255, 208, 154, 110, 101, 34, 60, 245, 45, 117, 233, 105, 34, 255, 104, 56, 19, 35],
  [210, 135, 126, 140, 88, 36, 13, 205, 81, 106, 135, 97, 88, 58, 231, 231, 56, 84, 153, 3, 73, 5, 16, 77, 77, 210, 113, 133, 107, 60, 164, 95],
  [239, 85, 21, 252, 186, 28, 32, 103, 255, 9, 179, 172, 70, 51, 250, 238, 64, 220, 127, 57, 88, 196, 16, 55, 8, 61, 52, 31, 31, 195, 15, 129],
  [241, 199, 84, 123, 161, 149, 234, 156, 70, 44, 137, 89, 127, 78, 127, 240, 115, 141, 57, 180, 222, 48, 44, 136, 182, 227, 165, 63, 76, 64, 73, 216],
  [31, 18, 46, 151, 38, 167, 50, 57, 33, 207, 205, 150, 2, 89, 82, 67, 159, 141, 38, 145, 209, 199, 32, 42, 68, 59, 191, 151, 247, 12, 244, 77],
  [61, 41, 194, 104, 212, 186, 134, 91, 157, 116, 21, 229, 177, 184, 251, 119, 39, 108, 40, 20, 153, 154, 202, 152, 49, 154, 252, 89, 250, 207, 14, 190],
  [145, 189, 132, 7, 181, 159, 118, 223, 86, 81, 184, 210, 30, 181, 50, 128, 62, 64, 67, 54, 245, 175, 27, 13, 53, 122, 147, 184, 220, 130, 12, 38]]
set_option maxRecDepth 1000000 in
theorem hz_all : (List.range 64).map (fun r => objN (66 :: List.replicate (r + 1) 0)) = HZ := by decide +kernel
theorem hz_64 : HZ.getD 63 [] = H64 := by decide +kernel
theorem hz_ne : ∀ r, r < 63 → HZ.getD r [] ≠ H64 := by decide +kernel
set_option maxRecDepth 1000000 in
theorem hf_eq : objN (73 :: 8 :: (List.replicate 8 H64).flatten) = HFl := by decide +kernel
set_option maxRecDepth 1000000 in
theorem row_ne0 : ∀ r, r < 64 → objN (73 :: 1 :: (List.replicate 0 H64 ++ [HZ.getD r []]).flatten) ≠ HFl := by decide +kernel
set_option maxRecDepth 1000000 in
theorem row_ne1 : ∀ r, r < 64 → objN (73 :: 2 :: (List.replicate 1 H64 ++ [HZ.getD r []]).flatten) ≠ HFl := by decide +kernel
set_option maxRecDepth 1000000 in
theorem row_ne2 : ∀ r, r < 64 → objN (73 :: 3 :: (List.replicate 2 H64 ++ [HZ.getD r []]).flatten) ≠ HFl := by decide +kernel
set_option maxRecDepth 1000000 in
theorem row_ne3 : ∀ r, r < 64 → objN (73 :: 4 :: (List.replicate 3 H64 ++ [HZ.getD r []]).flatten) ≠ HFl := by decide +kernel
set_option maxRecDepth 1000000 in
theorem row_ne4 : ∀ r, r < 64 → objN (73 :: 5 :: (List.replicate 4 H64 ++ [HZ.getD r []]).flatten) ≠ HFl := by decide +kernel
set_option maxRecDepth 1000000 in
theorem row_ne5 : ∀ r, r < 64 → objN (73 :: 6 :: (List.replicate 5 H64 ++ [HZ.getD r []]).flatten) ≠ HFl := by decide +kernel
set_option maxRecDepth 1000000 in
theorem row_ne6 : ∀ r, r < 64 → objN (73 :: 7 :: (List.replicate 6 H64 ++ [HZ.getD r []]).flatten) ≠ HFl := by decide +kernel
set_option maxRecDepth 1000000 in
theorem row_ne7 : ∀ r, r < 63 → objN (73 :: 8 :: (List.replicate 7 H64 ++ [HZ.getD r []]).flatten) ≠ HFl := by decide +kernel
theorem row_ne {j r : Nat} (hj : j < 8) (hr : r < 64) (h : ¬ (j = 7 ∧ r = 63)) : objN (73 :: UInt8.ofNat (j + 1) :: (List.replicate j H64 ++ [HZ.getD r []]).flatten) ≠ HFl := by
  rcases (show j = 0 ∨ j = 1 ∨ j = 2 ∨ j = 3 ∨ j = 4 ∨ j = 5 ∨ j = 6 ∨ j = 7 by omega) with rfl | rfl | rfl | rfl | rfl | rfl | rfl | rfl
  · exact row_ne0 r hr
  · exact row_ne1 r hr
  · exact row_ne2 r hr
  · exact row_ne3 r hr
  · exact row_ne4 r hr
  · exact row_ne5 r hr
  · exact row_ne6 r hr
  · exact row_ne7 r (by omega)

theorem objH_zeros {r : Nat} (h1 : 1 ≤ r) (h2 : r ≤ 64) : objH (bT (List.replicate r 0)) = HZ.getD (r - 1) [] := by
  have hs : (bT (List.replicate r 0)).size ≤ 65536 := by rw [ba_list, bT]; simp; omega
  rw [objN_eq _ hs]
  have h := congrArg (fun l => l.getD (r - 1) []) hz_all
  rw [← h, List.getD, List.getElem?_map, List.getElem?_range (by omega)]
  show _ = objN (66 :: List.replicate (r - 1 + 1) 0)
  rw [show r - 1 + 1 = r by omega]
  rfl
theorem objH_row {j : Nat} (xs : List (List UInt8)) (hl : ∀ x ∈ xs, x.length = 32) (hn : xs.length = j) (hj : j ≤ 8) : objH (nodeT 73 xs) = objN (73 :: UInt8.ofNat j :: xs.flatten) := by
  rw [objN_eq _ (by rw [nodeT_size2 73 xs hl]; omega), ← hn]
  rfl
theorem HZ_len {r : Nat} (hr : r < 64) : (HZ.getD r []).length = 32 := by
  have h : ∀ r, r < 64 → (HZ.getD r []).length = 32 := by decide +kernel
  exact h r hr
theorem H64_len : H64.length = 32 := rfl

section
variable {k : Nat} {Z : List UInt8} (hk : k ≤ 1023) (eZ : Z = List.replicate k 0)
include eZ
theorem zeros_cut {i : Nat} (hi : i < (cutL 64 Z).length) : 64 * i < k ∧ (cutL 64 Z)[i] = List.replicate (min 64 (k - 64 * i)) 0 := by
  obtain ⟨h1, h2⟩ := cutL_at (by decide) Z hi
  rw [h2, eZ, List.drop_replicate, List.take_replicate]
  rw [eZ, List.length_replicate] at h1
  exact ⟨h1, rfl⟩
theorem zeros_B : ApartL (buildB Z) := by
  intro s hs t ht e
  obtain ⟨c, hc, rfl⟩ := List.mem_map.1 hs
  obtain ⟨d, hd, rfl⟩ := List.mem_map.1 ht
  obtain ⟨i, hi, rfl⟩ := List.getElem_of_mem hc
  obtain ⟨j, hj, rfl⟩ := List.getElem_of_mem hd
  obtain ⟨h1, h2⟩ := zeros_cut eZ hi
  obtain ⟨h3, h4⟩ := zeros_cut eZ hj
  have hil := (cutL_len (k := 64) (by decide) Z.length Z (Nat.le_refl _)).2.2
  rw [h2, h4] at e ⊢
  rw [objH_zeros (by omega) (by omega), objH_zeros (by omega) (by omega)] at e
  by_cases g : min 64 (k - 64 * i) = min 64 (k - 64 * j)
  · rw [g]
  · exfalso
    by_cases g2 : min 64 (k - 64 * i) = 64
    · have := hz_ne (min 64 (k - 64 * j) - 1) (by omega)
      rw [← e, g2] at this
      exact this hz_64
    · have g3 : min 64 (k - 64 * j) = 64 := by omega
      have := hz_ne (min 64 (k - 64 * i) - 1) (by omega)
      rw [e, g3] at this
      exact this hz_64
theorem zeros_H {n : Nat} (hn : (buildH Z).length = n + 1) : buildH Z = List.replicate n H64 ++ [HZ.getD (k - 64 * n - 1) []] ∧ 64 * n < k ∧ k ≤ 64 * n + 64 := by
  have hl : (cutL 64 Z).length = n + 1 := by rw [← hn, buildH, buildB, List.length_map, List.length_map]
  have h1 := cutL_low (k := 64) (by decide) Z
  have h2 := (cutL_len (k := 64) (by decide) Z.length Z (Nat.le_refl _)).2.2
  rw [hl, eZ, List.length_replicate] at h1 h2
  refine ⟨?_, by omega, by omega⟩
  apply List.ext_getElem
  · rw [hn]; simp
  · intro i g1 g2
    have hi : i < (cutL 64 Z).length := by rw [hl, ← hn]; exact g1
    obtain ⟨h3, h4⟩ := zeros_cut eZ hi
    have e : (buildH Z)[i] = objH (bT (cutL 64 Z)[i]) := by simp only [buildH, buildB, List.getElem_map]
    rw [e, h4, objH_zeros (by omega) (by omega)]
    by_cases g : i < n
    · rw [List.getElem_append_left (by simpa using g), List.getElem_replicate, show min 64 (k - 64 * i) - 1 = 63 by omega]
      exact hz_64
    · obtain rfl : i = n := by omega
      rw [List.getElem_append_right (by simp)]
      simp only [List.length_replicate, Nat.sub_self, List.getElem_cons_zero]
      rw [show min 64 (k - 64 * i) - 1 = k - 64 * i - 1 by omega]
include hk
theorem zeros_I : ApartL (buildI Z) := by
  have hcl := (cutL_len (k := 8) (by decide) (buildH Z).length (buildH Z) (Nat.le_refl _))
  by_cases h8 : (buildH Z).length ≤ 8
  · have : (cutL 8 (buildH Z)).length ≤ 1 := by omega
    intro s hs t ht _
    have hl : (buildI Z).length ≤ 1 := by rw [buildI, List.length_map]; exact this
    obtain ⟨i, hi, rfl⟩ := List.getElem_of_mem hs
    obtain ⟨j, hj, rfl⟩ := List.getElem_of_mem ht
    have : i = j := by omega
    subst this; rfl
  · obtain ⟨n, hn⟩ : ∃ n, (buildH Z).length = n + 1 := ⟨(buildH Z).length - 1, by omega⟩
    obtain ⟨e, g1, g2⟩ := zeros_H eZ hn
    have hn8 : 8 ≤ n := by omega
    obtain ⟨x, ex⟩ : ∃ x, x = HZ.getD (k - 64 * n - 1) [] := ⟨_, rfl⟩
    have hx : x.length = 32 := by rw [ex]; exact HZ_len (by omega)
    have et : (buildH Z).take 8 = List.replicate 8 H64 := by
      rw [e, List.take_append_of_le_length (by simpa using hn8), List.take_replicate, Nat.min_eq_left hn8]
    have ed : (buildH Z).drop 8 = List.replicate (n - 8) H64 ++ [x] := by
      rw [e, List.drop_append_of_le_length (by simpa using hn8), List.drop_replicate, ex]
    have ec : cutL 8 (buildH Z) = [List.replicate 8 H64, List.replicate (n - 8) H64 ++ [x]] := by
      have hl : ((buildH Z).drop 8).length = n - 7 := by rw [List.length_drop]; omega
      rw [cutL_cons (by decide) _ (fun e => by rw [e] at hn; cases hn), et, cutL_cons (by decide) _ (fun e => by rw [e] at hl; simp at hl; omega), List.take_of_length_le (show ((buildH Z).drop 8).length ≤ 8 by omega), List.drop_of_length_le (show ((buildH Z).drop 8).length ≤ 8 by omega), cutL_nil, ed]
    have l1 : ∀ y ∈ List.replicate 8 H64, y.length = 32 := fun y hy => by rw [(List.mem_replicate.1 hy).2]; rfl
    have l2 : ∀ y ∈ List.replicate (n - 8) H64 ++ [x], y.length = 32 := fun y hy => by
      rcases List.mem_append.1 hy with h | h
      · rw [(List.mem_replicate.1 h).2]; rfl
      · rw [List.mem_singleton.1 h]; exact hx
    have d1 : objH (nodeT 73 (List.replicate 8 H64)) = HFl := by
      rw [objH_row _ l1 (j := 8) (by simp) (by omega)]
      exact hf_eq
    have d2 : objH (nodeT 73 (List.replicate (n - 8) H64 ++ [x])) ≠ HFl := by
      rw [objH_row _ l2 (j := n - 8 + 1) (by simp) (by omega), ex]
      exact row_ne (by omega) (by omega) (by omega)
    intro s hs t ht e2
    rw [buildI, ec] at hs ht
    simp only [List.map_cons, List.map_nil, List.mem_cons, List.not_mem_nil, or_false] at hs ht
    rcases hs with rfl | rfl <;> rcases ht with rfl | rfl
    · rfl
    · exact absurd (e2.symm.trans d1) d2
    · exact absurd (e2.trans d1) d2
    · rfl
end

theorem readK_found {ss : List ByteArray} {s : ByteArray} (hs : s ∈ ss) (hk : objOk s = true) : ∃ t, findL (readK ss) (objH s) = some t ∧ t ∈ ss ∧ objH t = objH s := by
  cases h : findL (readK ss) (objH s) with
  | none =>
    rw [readK_find] at h
    have := List.find?_eq_none.1 h s hs
    simp [hk] at this
  | some t =>
    obtain ⟨h1, _, h3⟩ := readK_some h
    exact ⟨t, rfl, h1, h3⟩
theorem head_node {s : ByteArray} {kd : UInt8} {m : Nat} (h : isNode s kd m) : s.data.toList.head? = some kd := by
  have h2 := congrArg List.head? h.2
  rw [List.head?_take, if_neg (by decide)] at h2
  exact h2
theorem head_block {s : ByteArray} {m : Nat} (h : isBlock s m) : s.data.toList.head? = some 66 := by
  have h2 := congrArg List.head? h.2
  rw [List.head?_take, if_neg (by decide)] at h2
  exact h2
theorem is_R {L : List UInt8} {t : ByteArray} (ht : t ∈ buildO L) (h : t.data.toList.head? = some 82) : t = buildR L := by
  rcases (mem_buildO L t).1 ht with h1 | h1 | h1
  · rw [head_B h1] at h; cases h
  · rw [head_I h1] at h; cases h
  · exact h1
theorem is_I {L : List UInt8} {t : ByteArray} (ht : t ∈ buildO L) (h : t.data.toList.head? = some 73) : t ∈ buildI L := by
  rcases (mem_buildO L t).1 ht with h1 | h1 | h1
  · rw [head_B h1] at h; cases h
  · exact h1
  · rw [h1] at h; cases h
theorem is_B {L : List UInt8} {t : ByteArray} (ht : t ∈ buildO L) (h : t.data.toList.head? = some 66) : t ∈ buildB L := by
  rcases (mem_buildO L t).1 ht with h1 | h1 | h1
  · exact h1
  · rw [head_I h1] at h; cases h
  · rw [h1] at h; cases h

section
variable {L : List UInt8} (hL : L.length ≤ 4096)
include hL
theorem stI_other (hI : ApartL (buildI L)) (many : Nat) : ∀ j, j ≤ (buildJ L).length → ∃ X b, stI (readK (buildO L)) many (buildJ L) [] false j = (X, [], b) ∧
    (b = true ∨ (X = (buildH L).take (8 * j) ∧ ∀ i, i < j → min 8 (many - 8 * i) = min 8 ((buildH L).length - 8 * i)))
  | 0, _ => ⟨[], false, rfl, .inr ⟨by simp, fun i hi => by cases hi⟩⟩
  | j + 1, h => by
    obtain ⟨X, b, ih, hb⟩ := stI_other hI many j (by omega)
    have hJl : (buildJ L).length = (cutL 8 (buildH L)).length := by rw [buildJ, buildI, List.length_map, List.length_map]
    have hj : j < (cutL 8 (buildH L)).length := by omega
    obtain ⟨h1, h2⟩ := cutL_at (by decide) (buildH L) hj
    obtain ⟨C, eC⟩ : ∃ C, C = (cutL 8 (buildH L))[j] := ⟨_, rfl⟩
    have hmem : nodeT 73 C ∈ buildI L := by rw [buildI, eC]; exact List.mem_map_of_mem (List.getElem_mem hj)
    have hgd : (buildJ L).getD j [] = objH (nodeT 73 C) := by
      rw [List.getD, List.getElem?_eq_getElem (by omega), Option.getD_some]
      simp only [buildJ, buildI, List.getElem_map, eC]
    have hCl : ∀ x ∈ C, x.length = 32 := fun x hx => by rw [eC, h2] at hx; exact buildH_len L x (List.mem_of_mem_drop (List.mem_of_mem_take hx))
    have hCn : C.length = min 8 ((buildH L).length - 8 * j) := by rw [eC, h2, List.length_take, List.length_drop]
    have hO : nodeT 73 C ∈ buildO L := (mem_buildO L _).2 (.inr (.inl hmem))
    obtain ⟨t, hf, ht, he⟩ := readK_found hO (ok258 (buildO_ok hL hO))
    simp only [stI, ih, hgd, namedH, namedB, wantsG, hf, Option.isSome_some, if_true]
    by_cases g : isNode t 73 (min 8 (many - 8 * j))
    · have ht2 := is_I ht (head_node g)
      have e := hI t ht2 _ hmem he
      subst e
      have hsz := g.1
      rw [nodeT_size2 73 C hCl] at hsz
      simp only [if_pos g]
      refine ⟨_, b, rfl, hb.imp id fun hb => ⟨?_, fun i hi => ?_⟩⟩
      · rw [hb.1, (isNode_nodeT 73 C hCl).2, eC, h2, Nat.mul_add, Nat.mul_one, List.take_add]
      · rcases Nat.lt_or_ge i j with h3 | h3
        · exact hb.2 i h3
        · obtain rfl : i = j := by omega
          omega
    · simp only [if_neg g]
      exact ⟨_, true, rfl, .inl rfl⟩
theorem stB_other (hB : ApartL (buildB L)) (size : Nat) : ∀ j, j ≤ (buildH L).length → ∃ X b, stB (readK (buildO L)) size (buildH L) [] false j = (X, [], b) ∧
    (b = true ∨ ∀ i, i < j → min 64 (size - 64 * i) = min 64 (L.length - 64 * i))
  | 0, _ => ⟨[], false, rfl, .inr fun i hi => by cases hi⟩
  | j + 1, h => by
    obtain ⟨X, b, ih, hb⟩ := stB_other hB size j (by omega)
    have hHl : (buildH L).length = (cutL 64 L).length := by rw [buildH, buildB, List.length_map, List.length_map]
    have hj : j < (cutL 64 L).length := by omega
    obtain ⟨h1, h2⟩ := cutL_at (by decide) L hj
    obtain ⟨C, eC⟩ : ∃ C, C = (cutL 64 L)[j] := ⟨_, rfl⟩
    have hmem : bT C ∈ buildB L := by rw [buildB, eC]; exact List.mem_map_of_mem (List.getElem_mem hj)
    have hgd : (buildH L).getD j [] = objH (bT C) := by
      rw [List.getD, List.getElem?_eq_getElem (by omega), Option.getD_some]
      simp only [buildH, buildB, List.getElem_map, eC]
    have hCn : C.length = min 64 (L.length - 64 * j) := by rw [eC, h2, List.length_take, List.length_drop]
    have hO : bT C ∈ buildO L := (mem_buildO L _).2 (.inl hmem)
    obtain ⟨t, hf, ht, he⟩ := readK_found hO (ok258 (buildO_ok hL hO))
    simp only [stB, ih, hgd, blkOut, blkBad, wantsG, hf, Option.isSome_some, if_true]
    by_cases g : isBlock t (min 64 (size - 64 * j))
    · have ht2 := is_B ht (head_block g)
      have e := hB t ht2 _ hmem he
      subst e
      have hsz := g.1
      rw [(isBlock_bT C).1.1] at hsz
      simp only [if_pos g]
      refine ⟨_, b, rfl, hb.imp id fun hb => fun i hi => ?_⟩
      rcases Nat.lt_or_ge i j with h3 | h3
      · exact hb i h3
      · obtain rfl : i = j := by omega
        omega
    · simp only [if_neg g]
      exact ⟨_, true, rfl, .inl rfl⟩
theorem load_other {size : Nat} (hB : ApartL (buildB L)) (hI : ApartL (buildI L)) (hne : size ≠ L.length) : (loadR (readK (buildO L)) (rootH L) size).er = 1200 := by
  have hO : buildR L ∈ buildO L := (mem_buildO L _).2 (.inr (.inr rfl))
  obtain ⟨t, hf, ht, he⟩ := readK_found hO (ok258 (buildO_ok hL hO))
  have hf' : findL (readK (buildO L)) (rootH L) = some t := hf
  have hW : wantsG (readK (buildO L)) [] (rootH L) = [] := by rw [wantsG, hf']; rfl
  by_cases g : isNode t 82 (partsN (partsN size 64) 8)
  · have e := is_R ht (head_node g)
    subst e
    have hsz := g.1
    rw [buildR, nodeT_size2 82 _ (buildJ_len L)] at hsz
    have hrows : partsN (partsN size 64) 8 = (buildJ L).length := by omega
    have hN : namedH (readK (buildO L)) (rootH L) 82 (partsN (partsN size 64) 8) = buildJ L := by
      rw [namedH, hf']
      simp only [if_pos g]
      exact (isNode_nodeT 82 (buildJ L) (buildJ_len L)).2
    have hNB : namedB (readK (buildO L)) (rootH L) 82 (partsN (partsN size 64) 8) false = false := by
      rw [namedB, hf']
      simp only [if_pos g]
    have hd : doneR [] false = none := rfl
    have hd2 : doneR [] true = some ⟨⟨#[]⟩, [], 1200⟩ := rfl
    obtain ⟨X, b, hS, hb⟩ := stI_other hL hI (partsN size 64) (buildJ L).length (Nat.le_refl _)
    unfold loadR
    simp only [hN, hNB, hW, hd, hS]
    cases b with
    | true => simp only [hd2]
    | false =>
      simp only [hd]
      obtain ⟨hX, hmin⟩ := hb.resolve_left (by simp)
      have hl1 := cutL_low (k := 8) (by decide) (buildH L)
      have hl2 := (cutL_len (k := 8) (by decide) (buildH L).length (buildH L) (Nat.le_refl _)).2.2
      have hJl : (buildJ L).length = (cutL 8 (buildH L)).length := by rw [buildJ, buildI, List.length_map, List.length_map]
      rw [List.take_of_length_le (by omega)] at hX
      subst hX
      have hq1 : 8 * partsN (partsN size 64) 8 < partsN size 64 + 8 := by unfold partsN; omega
      have hq2 : partsN size 64 ≤ 8 * partsN (partsN size 64) 8 := by
        have : ∀ a, a ≤ 8 * partsN a 8 := fun a => by unfold partsN; omega
        exact this _
      have hmany : partsN size 64 = (buildH L).length := by
        cases hq : (buildJ L).length with
        | zero => omega
        | succ q =>
          have := hmin q (by omega)
          omega
      obtain ⟨Y, b2, hS2, hb2⟩ := stB_other hL hB size (buildH L).length (Nat.le_refl _)
      simp only [hS2]
      cases b2 with
      | true => simp only [hd2]
      | false =>
        exfalso
        have hmin2 := hb2.resolve_left (by simp)
        have hl3 := cutL_low (k := 64) (by decide) L
        have hl4 := (cutL_len (k := 64) (by decide) L.length L (Nat.le_refl _)).2.2
        have hHl : (buildH L).length = (cutL 64 L).length := by rw [buildH, buildB, List.length_map, List.length_map]
        have hq3 : 64 * partsN size 64 < size + 64 := by unfold partsN; omega
        have hq4 : size ≤ 64 * partsN size 64 := by unfold partsN; omega
        cases hq : (buildH L).length with
        | zero => omega
        | succ q =>
          have := hmin2 q (by omega)
          omega
  · have hNB : namedB (readK (buildO L)) (rootH L) 82 (partsN (partsN size 64) 8) false = true := by
      rw [namedB, hf']
      simp only [if_neg g]
    unfold loadR
    simp only [hNB]
    rfl
end
theorem zeros_other {k d : Nat} {Z : List UInt8} (hk : k ≤ 1023) (eZ : Z = List.replicate k 0) (hd : d ≤ 255) : (loadR (readK (buildO Z)) (rootH Z) (k + 1 + d)).er = 1200 := by
  have hl : Z.length = k := by rw [eZ, List.length_replicate]
  exact load_other (by omega) (zeros_B eZ) (zeros_I hk eZ) (by omega)
end Go.Proofs.Ytmhbkilpllgchaa
