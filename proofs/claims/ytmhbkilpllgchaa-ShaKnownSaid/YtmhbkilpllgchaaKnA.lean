/- The walk of ShaKnown. -/
import Derived.Test.YtmhbkilpllgchaaShasA
namespace Go.Proofs.Ytmhbkilpllgchaa
open Go.RowKit BigFrame
set_option linter.unusedVariables false
set_option linter.unusedSimpArgs false

set_option maxRecDepth 100000 in
set_option maxHeartbeats 2000000 in
theorem words_any (S2 : S8) (w : World) : Calls Try.prog 38 #[.agg (scells S2)] w fun e w' => e = .returned (.agg (bcells (outL S2))) ∧ Below w.heap.size w w' := by
  obtain ⟨L, eL⟩ : ∃ L, L = w.heap.size := ⟨_, rfl⟩
  have hX0 : Blk (w.alloc (.cells (scells S2) 38)) L 38 (scells S2) := by rw [eL]; exact Blk.new _ _ _
  have s1 : (w.alloc (.cells (scells S2) 38)).heap.size = L + 1 := by simp [eL]
  have b1 : Below L w (w.alloc (.cells (scells S2) 38)) := (Below.refl _ _).alloc (by omega) _
  obtain ⟨w1, e1⟩ : ∃ w1, w1 = w.alloc (.cells (scells S2) 38) := ⟨_, rfl⟩
  rw [← e1] at hX0 s1 b1
  have hL1 : Blk (w1.alloc (.cells z32 29)) (L + 1) 29 z32 := by rw [← s1]; exact Blk.new _ _ _
  have s2 : (w1.alloc (.cells z32 29)).heap.size = L + 2 := by simp [s1]
  have b2 := b1.alloc (by omega) (.cells z32 29)
  have hX1 := hX0.alloc (.cells z32 29)
  obtain ⟨w2, e2⟩ : ∃ w2, w2 = w1.alloc (.cells z32 29) := ⟨_, rfl⟩
  rw [← e2] at hL1 s2 b2 hX1
  have hM0 : Blk (w2.alloc (.cells z32 29)) (L + 2) 29 (outP S2 0) := by rw [outP_zero, ← s2]; exact Blk.new _ _ _
  have s3 : (w2.alloc (.cells z32 29)).heap.size = L + 3 := by simp [s2]
  have b3 := b2.alloc (by omega) (.cells z32 29)
  have hX2 := hX1.alloc (.cells z32 29)
  have hL2 := hL1.alloc (.cells z32 29)
  obtain ⟨w3, e3⟩ : ∃ w3, w3 = w2.alloc (.cells z32 29) := ⟨_, rfl⟩
  rw [← e3] at hM0 s3 b3 hX2 hL2
  have E := Lib.hid (And.intro eL (And.intro e1 (And.intro e2 e3)))
  rw [← eL]
  have ES := Lib.hid (And.intro s1 (And.intro s2 s3))
  have hs3 : L + 2 < w3.heap.size := by omega
  clear eL e1 e2 e3 hX0 hX1 hL1 b1 b2 s1 s2 s3
  go_enter Try.func38, Try.ntmps38
  go_wp2_with (first
    | (rw [← E.out.1, ← E.out.2.1]; refine wpList_alN (d := 2) z32 zero29 (L + 1) ES.out.1 ?_; simp only [List.setIfInBounds_toArray, List.set_cons_succ, List.set_cons_zero]; rw [← E.out.2.2.1])
    | (refine wpList_alN (d := 3) z32 zero29 (L + 2) ES.out.2.1 ?_; simp only [List.setIfInBounds_toArray, List.set_cons_succ, List.set_cons_zero]; rw [← E.out.2.2.2]))
  obtain ⟨wo, rfl⟩ : ∃ wo : World, wo = w3 := ⟨_, rfl⟩
  go_loopw [4] (fun i wr => ∃ k : Nat, k ≤ 32 ∧ i = .int .i64 k ∧ Blk wr (L + 2) 29 (outP S2 k) ∧ Below (L + 2) wo wr) (fun i _ => 32 - (intOf i).toNat)
  case atStart => exact ⟨0, by omega, rfl, hM0, Below.refl _ _⟩
  case round =>
    clear hM0
    obtain ⟨k, hk, rfl, hMk, hbk2⟩ := hrel
    by_cases h2 : k < 32
    · have e0 : wr.cell? ⟨L, k / 4, none⟩ = some (W (outAt S2 (k / 4))) := by rw [(hX2.below hbk2 (by omega)).cell]; exact scells_at _ _ (by omega)
      have ef := hMk.frozen k
      have e1 : wr.cell? ⟨L + 2, k, none⟩ = some (B 0) := by rw [hMk.cell]; exact outP_at S2 k h2
      go_wp2
      go_roundw
      case rel => exact ⟨k + 1, by omega, by go_num, by rw [byte_out, ← outP_set S2 k h2]; exact hMk.set_ k _, hbk2.setCell (p := ⟨L + 2, k, none⟩) (Nat.le_refl _) _⟩
      case measure => simp [intOf]; omega
    · obtain rfl : k = 32 := by omega
      rw [outP_all] at hMk
      have hLk := hL2.below hbk2 (by omega)
      go_wp2_with (refine wpList_ld_row (d := 21) (L + 2) _ rfl 29 hMk Try.underlying29 rfl (by rw [size29, bcells_size]; rfl) (wpList_st_row (L + 1) (bcells (outL S2)) rfl rfl 29 z32 hLk (by rw [size29, bcells_size]; rfl) (by rw [bcells_size]; rfl) (bcells_one _) ?_); simp only [List.setIfInBounds_toArray, List.set_cons_succ, List.set_cons_zero])
      refine bodyPost_ret (results_cell_row rfl _ _ (L + 1) 29 _ (0, 0) _ rfl (hLk.row _) Try.underlying29 rfl (by rw [size29, bcells_size]; rfl)) rfl ⟨rfl, below_setRow (b3.trans (hbk2.mono (by omega))) (by omega) _⟩

/-- Words in numbers. -/
theorem words_of (S : S8) (L : List UInt8) (h : outL S = L) (w : World) : Calls Try.prog 38 #[.agg (scells S)] w fun e w' => e = .returned (.agg (bcells L)) ∧ Below w.heap.size w w' := by
  subst h; exact words_any S w
def kn1 : S8 := ⟨0xe3b0c442#32, 0x98fc1c14#32, 0x9afbf4c8#32, 0x996fb924#32, 0x27ae41e4#32, 0x649b934c#32, 0xa495991b#32, 0x7852b855#32⟩
def kn2 : S8 := ⟨0xba7816bf#32, 0x8f01cfea#32, 0x414140de#32, 0x5dae2223#32, 0xb00361a3#32, 0x96177a9c#32, 0xb410ff61#32, 0xf20015ad#32⟩
def kn3 : S8 := ⟨0x248d6a61#32, 0xd20638b8#32, 0xe5c02693#32, 0x0c3e6039#32, 0xa33ce459#32, 0x64ff2167#32, 0xf6ecedd4#32, 0x19db06c1#32⟩
theorem kn1_out : outL kn1 = sha [] := by rw [sha_nil]; decide +kernel
theorem kn2_out : outL kn2 = sha [97, 98, 99] := by rw [sha_abc]; decide +kernel
theorem kn3_out : outL kn3 = sha (⟨#[97, 98, 99, 100, 98, 99, 100, 101, 99, 100, 101, 102, 100, 101, 102, 103, 101, 102, 103, 104, 102, 103, 104, 105, 103, 104, 105, 106, 104, 105, 106, 107, 105, 106, 107, 108, 106, 107, 108, 109, 107, 108, 109, 110, 108, 109, 110, 111, 109, 110, 111, 112, 110, 111, 112, 113]⟩ : ByteArray).data.toList := by
  show _ = sha [97, 98, 99, 100, 98, 99, 100, 101, 99, 100, 101, 102, 100, 101, 102, 103, 101, 102, 103, 104, 102, 103, 104, 105, 103, 104, 105, 106, 104, 105, 106, 107, 105, 106, 107, 108, 106, 107, 108, 109, 107, 108, 109, 110, 108, 109, 110, 111, 109, 110, 111, 112, 110, 111, 112, 113]
  rw [sha_two]; decide +kernel
theorem kn1_cells : scells kn1 = #[.int .u32 3820012610, .int .u32 2566659092, .int .u32 2600203464, .int .u32 2574235940, .int .u32 665731556, .int .u32 1687917388, .int .u32 2761267483, .int .u32 2018687061] := by kernel_rfl
theorem kn2_cells : scells kn2 = #[.int .u32 3128432319, .int .u32 2399260650, .int .u32 1094795486, .int .u32 1571693091, .int .u32 2953011619, .int .u32 2518121116, .int .u32 3021012833, .int .u32 4060091821] := by kernel_rfl
theorem kn3_cells : scells kn3 = #[.int .u32 613247585, .int .u32 3523623096, .int .u32 3854575251, .int .u32 205414457, .int .u32 2738676825, .int .u32 1694441831, .int .u32 4142722516, .int .u32 433784513] := by kernel_rfl
end Go.Proofs.Ytmhbkilpllgchaa
