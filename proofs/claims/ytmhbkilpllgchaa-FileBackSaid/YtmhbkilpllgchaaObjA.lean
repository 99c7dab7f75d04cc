/- object.HashOf and the reference's Object. -/
import Derived.Test.YtmhbkilpllgchaaMapA
namespace Go.Proofs.Ytmhbkilpllgchaa
open Go.RowKit BigFrame
set_option linter.unusedVariables false
set_option linter.unusedSimpArgs false

/-- An object's hash; has it one? -/
def objH (s : ByteArray) : List UInt8 := tagH 0 [s]
def objOk (s : ByteArray) : Bool := tagOk 0 [s]
theorem objH_length (s : ByteArray) : (objH s).length = 32 := tagH_length 0 [s]
theorem objOk_iff (s : ByteArray) : objOk s = decide (s.size ≤ 65536) := by
  show (decide ((0 : Int) ≤ 0) && decide ((0 : Int) ≤ 4) && decide (total [s] ≤ 65536)) = _
  have : total [s] = s.size := by simp [total]
  rw [this]; simp
def objE (s : ByteArray) : Int := tagE 0 [s]
theorem tagT_one (s : ByteArray) : tagT 0 [s] = .tuple #[.agg (bcells (objH s)), .int .i64 (objE s)] := by
  unfold tagT objH objE
  exact rfl
theorem objOk_eq (s : ByteArray) : objOk s = (objE s == 0) := by
  unfold objOk objE tagE
  by_cases h : tagOk 0 [s] = true
  · rw [if_pos h, h]; rfl
  · rw [if_neg h]
    rw [Bool.not_eq_true] at h
    rw [h]; rfl
theorem tag_one (s : ByteArray) (w : World) (N : Nat) (hN : N = w.heap.size) (hs : s.size ≤ 140737488351232) :
    Calls Try.prog 41 #[.int .i64 0, .slice (some ⟨N, 0, none⟩) 1 1] (w.alloc (.cells #[.string s] 9)) fun e w' => e = .returned (tagT 0 [s]) ∧ Below w.heap.size w w' := by
  subst hN
  have := tag_any 0 (some ⟨w.heap.size, 0, none⟩) [s] 1 (w.alloc (.cells #[.string s] 9)) (by rw [List.length_singleton]; omega) (strs_new _ (Blk.new w 9 _)) (fun j hj => by
    obtain rfl : j = 0 := by simp at hj; omega
    exact hs)
  exact this.mono fun e w' h => ⟨h.1, ((Below.refl _ _).alloc (Nat.le_refl _) _).trans (h.2.mono (by simp))⟩
theorem rtag_one (s : ByteArray) (w : World) (N : Nat) (hN : N = w.heap.size) (hs : s.size ≤ 140737488351232) :
    Calls Try.prog 42 #[.int .i64 0, .slice (some ⟨N, 0, none⟩) 1 1] (w.alloc (.cells #[.string s] 9)) fun e w' => e = .returned (tagT 0 [s]) ∧ Below w.heap.size w w' := by
  subst hN
  have := rtag_all 0 (some ⟨w.heap.size, 0, none⟩) [s] 1 (w.alloc (.cells #[.string s] 9)) (by rw [List.length_singleton]; omega) (strs_new _ (Blk.new w 9 _)) (fun j hj => by
    obtain rfl : j = 0 := by simp at hj; omega
    exact hs)
  exact this.mono fun e w' h => ⟨h.1, ((Below.refl _ _).alloc (Nat.le_refl _) _).trans (h.2.mono (by simp))⟩

set_option maxRecDepth 100000 in
set_option maxHeartbeats 2000000 in
theorem hashof_any (s : ByteArray) (w : World) (hs : s.size ≤ 140737488351232) :
    Calls Try.prog 78 #[.string s] w fun e w' => e = .returned (.tuple #[.agg (bcells (objH s)), .bool (objOk s)]) ∧ Below w.heap.size w w' := by
  obtain ⟨L, eL⟩ : ∃ L, L = w.heap.size := ⟨_, rfl⟩
  obtain ⟨H, eH⟩ : ∃ H, H = objH s := ⟨_, rfl⟩
  have hHl : H.length = 32 := by rw [eH]; exact objH_length s
  obtain ⟨E, eE⟩ : ∃ E, E = objE s := ⟨_, rfl⟩
  have hT : tagT 0 [s] = .tuple #[.agg (bcells H), .int .i64 E] := by rw [eH, eE]; exact tagT_one s
  have hok : objOk s = (E == 0) := by rw [eE]; exact objOk_eq s
  have hL1 : Blk (w.alloc (.cells z32 29)) L 29 z32 := by rw [eL]; exact Blk.new _ _ _
  have hb1 : Below L w (w.alloc (.cells z32 29)) := (Below.refl _ _).alloc (by omega) _
  have s1 : (w.alloc (.cells z32 29)).heap.size = L + 1 := by rw [eL]; simp
  have hc := tag_one s (w.alloc (.cells z32 29)) (w.heap.size + 1) (by simp) hs
  rw [hT] at hc
  have C := Lib.hid (And.intro hc (And.intro eH (And.intro eE (And.intro hHl (And.intro eL (And.intro hL1 (And.intro hb1 s1)))))))
  rw [← eL, ← eH, hok]
  clear hc eH eE hHl hT hs hL1 hb1 s1 hok
  go_enter Try.func78, Try.ntmps78
  go_wp2_with (refine wpList_alN (d := 2) z32 zero29 L eL.symm ?_; simp only [List.setIfInBounds_toArray, List.set_cons_succ, List.set_cons_zero])
  clear eL
  refine C.out.1.mono ?_
  rintro e w2 ⟨rfl, hb2⟩
  have hs2 := hb2.size
  rw [C.out.2.2.2.2.2.2.2] at hb2 hs2
  have hL2 := C.out.2.2.2.2.2.1.below hb2 (by omega)
  have hbw2 := C.out.2.2.2.2.2.2.1.trans (hb2.mono (by omega))
  clear hb2
  have hs2' : L < w2.heap.size := by omega
  have hG0 : Blk (w2.alloc (.cells z32 29)) w2.heap.size 29 z32 := Blk.new _ _ _
  have hG3 : Blk ((w2.alloc (.cells z32 29)).setRow w2.heap.size (bcells H)) w2.heap.size 29 (bcells H) := hG0.row _
  have hL3 : Blk ((w2.alloc (.cells z32 29)).setRow w2.heap.size (bcells H)) L 29 z32 := (hL2.alloc _).rowFar (by omega) _
  have hb3 : Below L w ((w2.alloc (.cells z32 29)).setRow w2.heap.size (bcells H)) := below_setRow (hbw2.alloc (by omega) _) (by omega) _
  clear hs2
  have hb4 : Below L w (((w2.alloc (.cells z32 29)).setRow w2.heap.size (bcells H)).setRow L (bcells H)) := below_setRow hb3 (Nat.le_refl _) _
  go_wp2_with (first
    | (refine wpList_alN (d := 4) z32 zero29 w2.heap.size rfl (wpList_st_row w2.heap.size (bcells H) rfl rfl 29 z32 hG0 (by rw [size29, bcells_size, C.out.2.2.2.1]) (by rw [bcells_size, C.out.2.2.2.1]; rfl) (bcells_one _) ?_); simp only [List.setIfInBounds_toArray, List.set_cons_succ, List.set_cons_zero])
    | (refine wpList_ld_row (d := 12) w2.heap.size _ rfl 29 hG3 Try.underlying29 rfl (by rw [size29, bcells_size, C.out.2.2.2.1]) ?_; simp only [List.setIfInBounds_toArray, List.set_cons_succ, List.set_cons_zero])
    | (refine wpList_st_row L (bcells H) rfl rfl 29 z32 hL3 (by rw [size29, bcells_size, C.out.2.2.2.1]) (by rw [bcells_size, C.out.2.2.2.1]; rfl) (bcells_one _) ?_))
  refine bodyPost_ret (results_row_slot rfl _ _ L 29 (bcells H) (0, 0) _ rfl (hL3.row _) Try.underlying29 rfl (by rw [size29, bcells_size, C.out.2.2.2.1])) rfl ⟨rfl, hb4⟩

set_option maxRecDepth 100000 in
set_option maxHeartbeats 2000000 in
theorem obj_any (s : ByteArray) (w : World) (hs : s.size ≤ 140737488351232) :
    Calls Try.prog 58 #[.string s] w fun e w' => e = .returned (.agg (bcells (objH s))) ∧ Below w.heap.size w w' := by
  obtain ⟨L, eL⟩ : ∃ L, L = w.heap.size := ⟨_, rfl⟩
  obtain ⟨H, eH⟩ : ∃ H, H = objH s := ⟨_, rfl⟩
  have hHl : H.length = 32 := by rw [eH]; exact objH_length s
  obtain ⟨E, eE⟩ : ∃ E, E = objE s := ⟨_, rfl⟩
  have hT : tagT 0 [s] = .tuple #[.agg (bcells H), .int .i64 E] := by rw [eH, eE]; exact tagT_one s
  have hL1 : Blk (w.alloc (.cells z32 29)) L 29 z32 := by rw [eL]; exact Blk.new _ _ _
  have hb1 : Below L w (w.alloc (.cells z32 29)) := (Below.refl _ _).alloc (by omega) _
  have s1 : (w.alloc (.cells z32 29)).heap.size = L + 1 := by rw [eL]; simp
  have hc := rtag_one s (w.alloc (.cells z32 29)) (w.heap.size + 1) (by simp) hs
  rw [hT] at hc
  have C := Lib.hid (And.intro hc (And.intro eH (And.intro eE (And.intro hHl (And.intro eL (And.intro hL1 (And.intro hb1 s1)))))))
  rw [← eL, ← eH]
  clear hc eH eE hHl hT hs hL1 hb1 s1
  go_enter Try.func58, Try.ntmps58
  go_wp2_with (refine wpList_alN (d := 2) z32 zero29 L eL.symm ?_; simp only [List.setIfInBounds_toArray, List.set_cons_succ, List.set_cons_zero])
  clear eL
  refine C.out.1.mono ?_
  rintro e w2 ⟨rfl, hb2⟩
  have hs2 := hb2.size
  rw [C.out.2.2.2.2.2.2.2] at hb2 hs2
  have hL2 := C.out.2.2.2.2.2.1.below hb2 (by omega)
  have hbw2 := C.out.2.2.2.2.2.2.1.trans (hb2.mono (by omega))
  clear hb2
  have hs2' : L < w2.heap.size := by omega
  have hG0 : Blk (w2.alloc (.cells z32 29)) w2.heap.size 29 z32 := Blk.new _ _ _
  have hG3 : Blk ((w2.alloc (.cells z32 29)).setRow w2.heap.size (bcells H)) w2.heap.size 29 (bcells H) := hG0.row _
  have hL3 : Blk ((w2.alloc (.cells z32 29)).setRow w2.heap.size (bcells H)) L 29 z32 := (hL2.alloc _).rowFar (by omega) _
  have hb3 : Below L w ((w2.alloc (.cells z32 29)).setRow w2.heap.size (bcells H)) := below_setRow (hbw2.alloc (by omega) _) (by omega) _
  clear hs2
  have hb4 : Below L w (((w2.alloc (.cells z32 29)).setRow w2.heap.size (bcells H)).setRow L (bcells H)) := below_setRow hb3 (Nat.le_refl _) _
  go_wp2_with (first
    | (refine wpList_alN (d := 3) z32 zero29 w2.heap.size rfl (wpList_st_row w2.heap.size (bcells H) rfl rfl 29 z32 hG0 (by rw [size29, bcells_size, C.out.2.2.2.1]) (by rw [bcells_size, C.out.2.2.2.1]; rfl) (bcells_one _) ?_); simp only [List.setIfInBounds_toArray, List.set_cons_succ, List.set_cons_zero])
    | (refine wpList_ld_row (d := 11) w2.heap.size _ rfl 29 hG3 Try.underlying29 rfl (by rw [size29, bcells_size, C.out.2.2.2.1]) ?_; simp only [List.setIfInBounds_toArray, List.set_cons_succ, List.set_cons_zero])
    | (refine wpList_st_row L (bcells H) rfl rfl 29 z32 hL3 (by rw [size29, bcells_size, C.out.2.2.2.1]) (by rw [bcells_size, C.out.2.2.2.1]; rfl) (bcells_one _) ?_))
  refine bodyPost_ret (results_cell_row rfl _ _ L 29 (bcells H) (0, 0) _ rfl (hL3.row _) Try.underlying29 rfl (by rw [size29, bcells_size, C.out.2.2.2.1])) rfl ⟨rfl, hb4⟩
end Go.Proofs.Ytmhbkilpllgchaa
