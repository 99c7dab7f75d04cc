/- Digest and sha.Sum on the bytes that were written. -/
import Derived.Test.YtmhbkilpllgchaaShaS
namespace Go.Proofs.Ytmhbkilpllgchaa
open Go.RowKit BigFrame

/-- The digest of the bytes of a text. -/
def shaV (s : ByteArray) : Value := .agg (bcells (sha s.data.toList))

/-- A digest that was written the bytes l. -/
structure DigL (w : World) (D base : Nat) (rv : Value) (l : List UInt8) : Prop where
  dig : Dig w D base rv (headS l) (restL l) l.length

theorem DigL.sum {w : World} {D base : Nat} {rv : Value} {l : List UInt8} (h : DigL w D base rv l) (hn : l.length ≤ 576460752303423488) :
    Calls Try.prog 34 #[.pointer (some ⟨D, 0, none⟩)] w fun e w' => e = .returned (.agg (bcells (sha l))) ∧ Below w.heap.size w w' := by
  have hr := restL_length l
  refine (sum_any D base rv (headS l) (restL l) l.length w (by omega) hr hn h.dig).mono ?_
  rintro e w' ⟨he, hb⟩
  exact ⟨by rw [he, sha_of], hb⟩
theorem DigL.write {w : World} {D base : Nat} {rv : Value} {l : List UInt8} (h : DigL w D base rv l) (s : ByteArray) (hs : s.size ≤ 140737488351232) (hn : l.length ≤ 576460752303423488) (hbase : base ≤ w.heap.size) :
    Calls Try.prog 32 #[.pointer (some ⟨D, 0, none⟩), .string s] w fun e w' => e = .returned (.tuple #[]) ∧
      ∃ rv', DigL w' D base rv' (l ++ s.data.toList) ∧ (rv'.ownBlock = none ∨ ∃ g, rv'.ownBlock = some g ∧ w.heap.size ≤ g) ∧ Keeps w w' D rv.ownBlock := by
  have hr := restL_length l
  refine (write_any D base rv (headS l) (restL l) l.length s w (by omega) hs (by omega) h.dig hbase).mono ?_
  rintro e w' ⟨he, rv', hD, hg, hk⟩
  refine ⟨he, rv', ⟨?_⟩, hg, hk⟩
  have e : (l ++ s.data.toList).length = l.length + s.size := by rw [List.length_append]; rfl
  rw [e, headS_append, restL_append]
  exact hD
theorem DigL.len {w : World} {D base : Nat} {rv : Value} {l : List UInt8} (h : DigL w D base rv l) :
    Calls Try.prog 33 #[.pointer (some ⟨D, 0, none⟩)] w fun e w' => e = .returned (.int .i64 (l.length : Int)) ∧ w' = w := len_any D base rv _ _ _ w h.dig
theorem DigL.new (w : World) : Calls Try.prog 31 #[] w fun e w' => ∃ D, D = w.heap.size ∧ e = .returned (.pointer (some ⟨D, 0, none⟩)) ∧ DigL w' D w.heap.size (.slice none 0 0) [] ∧ Below w.heap.size w w' ∧ w'.heap.size = D + 1 := by
  refine (new_any w).mono ?_
  rintro e w' ⟨he, rfl⟩
  exact ⟨_, rfl, he, ⟨⟨Blk.new _ _ _, World.ownsRow_nil _ _ _ _, fun _ => rfl⟩⟩, (Below.refl _ _).alloc (Nat.le_refl _) _, by simp⟩

set_option maxRecDepth 100000 in
set_option maxHeartbeats 3000000 in
/-- **sha.Sum.** -/
theorem ssum_any (s : ByteArray) (w : World) (hs : s.size ≤ 140737488351232) :
    Calls Try.prog 36 #[.string s] w fun e w' => e = .returned (shaV s) ∧ Below w.heap.size w w' := by
  go_enter Try.func36, Try.ntmps36
  go_wp2_with (refine wpList_alN (d := 2) z32 zero29 w.heap.size rfl ?_; simp only [List.setIfInBounds_toArray, List.set_cons_succ, List.set_cons_zero])
  have hL1 : Blk (w.alloc (.cells z32 29)) w.heap.size 29 z32 := Blk.new _ _ _
  have hb1 : Below w.heap.size w (w.alloc (.cells z32 29)) := (Below.refl _ _).alloc (Nat.le_refl _) _
  obtain ⟨w1, e1⟩ : ∃ w1, w1 = w.alloc (.cells z32 29) := ⟨_, rfl⟩
  rw [← e1] at hL1 hb1 ⊢
  clear e1
  have hl1 := hL1.lt
  refine (DigL.new w1).mono ?_
  rintro e w2 ⟨D, eD, rfl, hD2, hb2, hs2⟩
  have ED := Lib.hid eD
  have hDl : w.heap.size < D := by omega
  have hL2 := hL1.below hb2 hl1
  have hbw2 := hb1.trans (hb2.mono (by omega))
  have hrow : (Value.slice none 0 0).ownBlock = none := rfl
  clear eD
  go_wp2_with fail
  refine (hD2.write s hs (by simp) hb2.size).mono ?_
  rintro e w3 ⟨rfl, rv3, hD3, _, hK3⟩
  rw [List.nil_append] at hD3
  have hb3 : Below D w2 w3 := ⟨hK3.os, hK3.tape, hK3.output, hK3.size, fun i hi => hK3.block i (by omega) (by omega) (by simp [hrow])⟩
  have hL3 := hL2.below hb3 hDl
  go_wp2_with fail
  refine (hD3.sum (by simp only [ByteArray.size] at hs; rw [Array.length_toList]; omega)).mono ?_
  rintro e w4 ⟨rfl, hb4⟩
  have hL4 := hL3.below hb4 (by have := hb3.size; omega)
  go_wp2_with (refine wpList_st_row w.heap.size (bcells (sha s.data.toList)) rfl rfl 29 z32 hL4 (by rw [size29, bcells_size, sha_length]) (by rw [bcells_size, sha_length]; rfl) (bcells_one _) ?_)
  refine bodyPost_ret (results_cell_row rfl _ _ w.heap.size 29 (bcells (sha s.data.toList)) (0, 0) _ rfl (hL4.row (bcells (sha s.data.toList))) Try.underlying29 rfl (by rw [size29, bcells_size, sha_length])) rfl ⟨rfl, below_setRow ((hbw2.trans (hb3.mono (by omega))).trans (hb4.mono (by have := hb3.size; omega))) (Nat.le_refl _) _⟩
end Go.Proofs.Ytmhbkilpllgchaa
