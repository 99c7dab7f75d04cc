/- The reference's Be and Sha. -/
import Derived.Test.YtmhbkilpllgchaaGreatDoorShaS
import Derived.Test.YtmhbkilpllgchaaGreatDoorShaC
namespace Go.Proofs.YtmhbkilpllgchaaGreatDoor
open Go.RowKit BigFrame

/-- A number's bytes, so many of them written, from the last on. -/
def beP (N x k : Nat) : List UInt8 := (List.range N).map fun j => if N ≤ j + k then UInt8.ofNat (x / 256 ^ (N - 1 - j)) else 0
theorem beP_length (N x k : Nat) : (beP N x k).length = N := by simp [beP]
theorem beP_zero (N x : Nat) : beP N x 0 = List.replicate N 0 := by
  apply List.ext_getElem?
  intro j
  by_cases hj : j < N
  · have h2 : ¬ (N ≤ j) := by omega
    simp [beP, hj, h2]
  · simp [beP, hj]
theorem beP_all (N x : Nat) : beP N x N = beL N x := by
  apply List.ext_getElem?
  intro j
  by_cases hj : j < N
  · simp [beP, beL, hj]
  · simp [beP, beL, hj]
theorem beP_set (N x k : Nat) (hk : k < N) : ((beP N x k).map B).toArray.setIfInBounds (N - 1 - k) (B (UInt8.ofNat (x / 256 ^ k))) = ((beP N x (k + 1)).map B).toArray := by
  apply Array.ext_getElem?
  intro j
  rw [Array.getElem?_setIfInBounds]
  by_cases hj : j < N
  · by_cases h0 : N - 1 - k = j
    · rw [if_pos h0, if_pos (by simp [beP]; omega)]
      have h2 : N ≤ j + (k + 1) := by omega
      have h3 : N - 1 - j = k := by omega
      simp [beP, hj, h2, h3]
    · rw [if_neg h0]
      have h4 : (N ≤ j + (k + 1)) = (N ≤ j + k) := by
        apply propext
        omega
      simp [beP, hj, h4]
  · have h1 : ¬ (N - 1 - k = j) := by omega
    simp [beP, hj, h1]

theorem bits_and_i64 (a b : Nat) (ha : a < 9223372036854775808) (hb : b < 9223372036854775808) : bits .and .i64 (a : Int) (b : Int) = ((a &&& b : Nat) : Int) := by
  show IntKind.i64.wrap ((BitVec.ofInt 64 (a : Int) &&& BitVec.ofInt 64 (b : Int)).toNat : Int) = _
  have h1 : (BitVec.ofInt 64 (a : Int)).toNat = a := by rw [BitVec.toNat_ofInt]; omega
  have h2 : (BitVec.ofInt 64 (b : Int)).toNat = b := by rw [BitVec.toNat_ofInt]; omega
  rw [BitVec.toNat_and, h1, h2, IntKind.wrap_i64]
  have h3 : a &&& b ≤ a := Nat.and_le_left
  omega
theorem and_255 (a : Nat) (ha : a < 9223372036854775808) : bits .and .i64 (a : Int) 255 % 256 = ((a % 256 : Nat) : Int) := by
  have := bits_and_i64 a 255 ha (by omega)
  have h : (255 : Int) = ((255 : Nat) : Int) := rfl
  rw [h, this, show a &&& 255 = a % 256 from Nat.and_two_pow_sub_one_eq_mod a 8]
  omega
theorem byte_mod (y : Nat) : Value.int .u8 ((y % 256 : Nat) : Int) = B (UInt8.ofNat y) := by
  show _ = Value.int .u8 _
  simp

set_option maxRecDepth 100000 in
set_option maxHeartbeats 3000000 in
theorem be_any (x N : Nat) (w : World) (hx : x ≤ 9223372036854775807) (hN : N ≤ 1099511627776) :
    Calls Tryz.prog 26 #[.int .i64 (x : Int), .int .i64 (N : Int)] w fun e w' => e = .returned (.string ⟨(beL N x).toArray⟩) ∧ Below w.heap.size w w' := by
  obtain ⟨i0, hi0, hz0, hz1, hz2⟩ := info_parts info5
  obtain ⟨X, eX⟩ : ∃ X, X = w.heap.size := ⟨_, rfl⟩
  have EX := Lib.hid eX
  rw [← eX]
  have eX' := eX.symm
  clear eX
  have EX2 := Lib.hid eX'
  clear eX'
  go_enter Tryz.func26, Tryz.ntmps26
  go_wp2_with (refine wpList_mk X N _ rfl (by omega) EX2.out rfl rfl hi0 hz0 hz1 hz2 ?_; intro wy hY0 hby hsy; simp only [List.setIfInBounds_toArray, List.set_cons_succ, List.set_cons_zero])
  rw [← beP_zero N x] at hY0
  obtain ⟨wo, rfl⟩ : ∃ wo : World, wo = wy := ⟨_, rfl⟩
  go_loopw [0, 6] (fun v i wr => ∃ k : Nat, k ≤ N ∧ v = .int .i64 ((x / 256 ^ k : Nat) : Int) ∧ i = .int .i64 ((N : Int) - 1 - (k : Int)) ∧ Blk wr X 5 ((beP N x k).map B).toArray ∧ Below X w wr) (fun _ i _ => (intOf i + 1).toNat)
  case atStart => exact ⟨0, by omega, by simp, by simp, hY0, hby⟩
  case round =>
    clear hY0 hby hsy
    obtain ⟨k, hk, rfl, rfl, hYk, hbk⟩ := hrel
    obtain ⟨y, hy⟩ : ∃ y, y = x / 256 ^ k := ⟨_, rfl⟩
    have hyx : y ≤ 9223372036854775807 := by rw [hy]; exact Nat.le_trans (Nat.div_le_self _ _) hx
    rw [← hy]
    have HY := Lib.hid hy
    clear hy
    by_cases h1 : k < N
    · have y0 : ∃ u, wr.cell? ⟨X, N - 1 - k, none⟩ = some u := by
        rw [hYk.cell, List.getElem?_toArray, List.getElem?_map, List.getElem?_eq_getElem (by rw [beP_length]; omega)]
        exact ⟨_, rfl⟩
      obtain ⟨u0, y0⟩ := y0
      have yf := hYk.frozen (N - 1 - k)
      have hidx : ((N : Int) - 1 - (k : Int)).toNat = N - 1 - k := by omega
      go_wp2
      go_roundw
      case rel =>
        exact ⟨k + 1, by omega, by rw [Nat.pow_succ, ← Nat.div_div_eq_div_mul, ← HY.out]; rfl, by congr 1; omega, by rw [and_255 y (by omega), byte_mod, HY.out, ← beP_set N x k h1]; exact hYk.set_ _ _, hbk.setCell (p := ⟨X, N - 1 - k, none⟩) (Nat.le_refl _) _⟩
      case measure => simp [intOf]; omega
    · obtain rfl : k = N := by omega
      rw [beP_all] at hYk
      go_wp2_with (refine wpList_str X k k (beL k x) (beL_length k x) rfl hYk ?_; simp only [List.setIfInBounds_toArray, List.set_cons_succ, List.set_cons_zero])
      go_ret
      exact ⟨rfl, hbk⟩
end Go.Proofs.YtmhbkilpllgchaaGreatDoor
