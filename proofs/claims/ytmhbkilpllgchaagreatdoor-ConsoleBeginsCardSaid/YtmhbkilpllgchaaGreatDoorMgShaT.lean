/- Known digests, reckoned by the kernel. Digest and sha.Sum on the bytes that were written. -/
import Derived.Test.YtmhbkilpllgchaaGreatDoorSha
import Derived.Test.YtmhbkilpllgchaaGreatDoorShaS
namespace Go.Proofs.YtmhbkilpllgchaaGreatDoor
theorem sha_abc : sha [97, 98, 99] = [186, 120, 22, 191, 143, 1, 207, 234, 65, 65, 64, 222, 93, 174, 34, 35, 176, 3, 97, 163, 150, 23, 122, 156, 180, 16, 255, 97, 242, 0, 21, 173] := by decide +kernel
theorem sha_nil : sha [] = [227, 176, 196, 66, 152, 252, 28, 20, 154, 251, 244, 200, 153, 111, 185, 36, 39, 174, 65, 228, 100, 155, 147, 76, 164, 149, 153, 27, 120, 82, 184, 85] := by decide +kernel
theorem sha_two : sha [97, 98, 99, 100, 98, 99, 100, 101, 99, 100, 101, 102, 100, 101, 102, 103, 101, 102, 103, 104, 102, 103, 104, 105, 103, 104, 105, 106, 104, 105, 106, 107, 105, 106, 107, 108, 106, 107, 108, 109, 107, 108, 109, 110, 108, 109, 110, 111, 109, 110, 111, 112, 110, 111, 112, 113] = [36, 141, 106, 97, 210, 6, 56, 184, 229, 192, 38, 147, 12, 62, 96, 57, 163, 60, 228, 89, 100, 255, 33, 103, 246, 236, 237, 212, 25, 219, 6, 193] := by decide +kernel
end Go.Proofs.YtmhbkilpllgchaaGreatDoor
namespace Go.Proofs.YtmhbkilpllgchaaGreatDoor
open Go.RowKit BigFrame

/-- The digest of the bytes of a text. -/
def shaV (s : ByteArray) : Value := .agg (bcells (sha s.data.toList))

/-- A digest that was written the bytes l. -/
structure DigL (w : World) (D base : Nat) (rv : Value) (l : List UInt8) : Prop where
  dig : Dig w D base rv (headS l) (restL l) l.length

theorem DigL.sum {w : World} {D base : Nat} {rv : Value} {l : List UInt8} (h : DigL w D base rv l) (hn : l.length ≤ 576460752303423488) :
    Calls Tryz.prog 54 #[.pointer (some ⟨D, 0, none⟩)] w fun e w' => e = .returned (.agg (bcells (sha l))) ∧ Below w.heap.size w w' := by
  have hr := restL_length l
  refine (sum_any D base rv (headS l) (restL l) l.length w (by omega) hr hn h.dig).mono ?_
  rintro e w' ⟨he, hb⟩
  exact ⟨by rw [he, sha_of], hb⟩
theorem DigL.write {w : World} {D base : Nat} {rv : Value} {l : List UInt8} (h : DigL w D base rv l) (s : ByteArray) (hs : s.size ≤ 140737488351232) (hn : l.length ≤ 576460752303423488) (hbase : base ≤ w.heap.size) :
    Calls Tryz.prog 53 #[.pointer (some ⟨D, 0, none⟩), .string s] w fun e w' => e = .returned (.tuple #[]) ∧
      ∃ rv', DigL w' D base rv' (l ++ s.data.toList) ∧ (rv'.ownBlock = none ∨ ∃ g, rv'.ownBlock = some g ∧ w.heap.size ≤ g) ∧ Keeps w w' D rv.ownBlock := by
  have hr := restL_length l
  refine (write_any D base rv (headS l) (restL l) l.length s w (by omega) hs (by omega) h.dig hbase).mono ?_
  rintro e w' ⟨he, rv', hD, hg, hk⟩
  refine ⟨he, rv', ⟨?_⟩, hg, hk⟩
  have e : (l ++ s.data.toList).length = l.length + s.size := by rw [List.length_append]; rfl
  rw [e, headS_append, restL_append]
  exact hD
theorem DigL.new (w : World) : Calls Tryz.prog 52 #[] w fun e w' => ∃ D, D = w.heap.size ∧ e = .returned (.pointer (some ⟨D, 0, none⟩)) ∧ DigL w' D w.heap.size (.slice none 0 0) [] ∧ Below w.heap.size w w' ∧ w'.heap.size = D + 1 := by
  refine (new_any w).mono ?_
  rintro e w' ⟨he, rfl⟩
  exact ⟨_, rfl, he, ⟨⟨Blk.new _ _ _, World.ownsRow_nil _ _ _ _, fun _ => rfl⟩⟩, (Below.refl _ _).alloc (Nat.le_refl _) _, by simp⟩

set_option maxRecDepth 100000 in
set_option maxHeartbeats 3000000 in
/-- **sha.Sum.** -/
theorem ssum_any (s : ByteArray) (w : World) (hs : s.size ≤ 140737488351232) :
    Calls Tryz.prog 30 #[.string s] w fun e w' => e = .returned (shaV s) ∧ Below w.heap.size w w' := by
  go_enter Tryz.func30, Tryz.ntmps30
  go_wp2_with (refine wpList_alN (d := 2) z32 zero29 w.heap.size rfl ?_; simp only [List.setIfInBounds_toArray, List.set_cons_succ, List.set_cons_zero])
  have hL1 : Blk (w.alloc (.cells z32 36)) w.heap.size 36 z32 := Blk.new _ _ _
  have hb1 : Below w.heap.size w (w.alloc (.cells z32 36)) := (Below.refl _ _).alloc (Nat.le_refl _) _
  obtain ⟨w1, e1⟩ : ∃ w1, w1 = w.alloc (.cells z32 36) := ⟨_, rfl⟩
  rw [← e1] at hL1 hb1 ⊢
  clear e1
  have hl1 := hL1.lt
  refine (DigL.new w1).mono ?_
  rintro e w2 ⟨D, eD, rfl, hD2, hb2, hs2⟩
  have ED := Lib.hid eD
  have hDl : w.heap.size < D := by omega
  have hL2 := hL1.below hb2 hl1
  have hbw2 := hb1.trans (hb2.mono (by omega))
  have hrow : (Value.slice none 0 0).ownBlock = none := rfl
  clear eD
  go_wp2_with fail
  refine (hD2.write s hs (by simp) hb2.size).mono ?_
  rintro e w3 ⟨rfl, rv3, hD3, _, hK3⟩
  rw [List.nil_append] at hD3
  have hb3 : Below D w2 w3 := ⟨hK3.os, hK3.tape, hK3.output, hK3.size, fun i hi => hK3.block i (by omega) (by omega) (by simp [hrow])⟩
  have hL3 := hL2.below hb3 hDl
  go_wp2_with fail
  refine (hD3.sum (by simp only [ByteArray.size] at hs; rw [Array.length_toList]; omega)).mono ?_
  rintro e w4 ⟨rfl, hb4⟩
  have hL4 := hL3.below hb4 (by have := hb3.size; omega)
  go_wp2_with (refine wpList_st_row w.heap.size (bcells (sha s.data.toList)) rfl rfl 36 z32 hL4 (by rw [size29, bcells_size, sha_length]) (by rw [bcells_size, sha_length]; rfl) (bcells_one _) ?_)
  refine bodyPost_ret (results_cell_row rfl _ _ w.heap.size 36 (bcells (sha s.data.toList)) (0, 0) _ rfl (hL4.row (bcells (sha s.data.toList))) Tryz.underlying36 rfl (by rw [size29, bcells_size, sha_length])) rfl ⟨rfl, below_setRow ((hbw2.trans (hb3.mono (by omega))).trans (hb4.mono (by have := hb3.size; omega))) (Nat.le_refl _) _⟩
end Go.Proofs.YtmhbkilpllgchaaGreatDoor
