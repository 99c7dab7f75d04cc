/- The walk of (*sha.Digest).turn: a block worked in. -/
import Derived.Test.YtmhbkilpllgchaaGreatDoorShaA
import Derived.Deep.CutRange
import Derived.Deep.CutBlock
namespace Go.Proofs.YtmhbkilpllgchaaGreatDoor
open Go.RowKit BigFrame
def kw : Array Value := ((List.range 64).map fun i => W (kAt i)).toArray
set_option maxRecDepth 100000 in
theorem kw_lit : kw = #[.int .u32 0x428a2f98, .int .u32 0x71374491, .int .u32 0xb5c0fbcf, .int .u32 0xe9b5dba5, .int .u32 0x3956c25b, .int .u32 0x59f111f1, .int .u32 0x923f82a4, .int .u32 0xab1c5ed5,
  .int .u32 0xd807aa98, .int .u32 0x12835b01, .int .u32 0x243185be, .int .u32 0x550c7dc3, .int .u32 0x72be5d74, .int .u32 0x80deb1fe, .int .u32 0x9bdc06a7, .int .u32 0xc19bf174,
  .int .u32 0xe49b69c1, .int .u32 0xefbe4786, .int .u32 0x0fc19dc6, .int .u32 0x240ca1cc, .int .u32 0x2de92c6f, .int .u32 0x4a7484aa, .int .u32 0x5cb0a9dc, .int .u32 0x76f988da,
  .int .u32 0x983e5152, .int .u32 0xa831c66d, .int .u32 0xb00327c8, .int .u32 0xbf597fc7, .int .u32 0xc6e00bf3, .int .u32 0xd5a79147, .int .u32 0x06ca6351, .int .u32 0x14292967,
  .int .u32 0x27b70a85, .int .u32 0x2e1b2138, .int .u32 0x4d2c6dfc, .int .u32 0x53380d13, .int .u32 0x650a7354, .int .u32 0x766a0abb, .int .u32 0x81c2c92e, .int .u32 0x92722c85,
  .int .u32 0xa2bfe8a1, .int .u32 0xa81a664b, .int .u32 0xc24b8b70, .int .u32 0xc76c51a3, .int .u32 0xd192e819, .int .u32 0xd6990624, .int .u32 0xf40e3585, .int .u32 0x106aa070,
  .int .u32 0x19a4c116, .int .u32 0x1e376c08, .int .u32 0x2748774c, .int .u32 0x34b0bcb5, .int .u32 0x391c0cb3, .int .u32 0x4ed8aa4a, .int .u32 0x5b9cca4f, .int .u32 0x682e6ff3,
  .int .u32 0x748f82ee, .int .u32 0x78a5636f, .int .u32 0x84c87814, .int .u32 0x8cc70208, .int .u32 0x90befffa, .int .u32 0xa4506ceb, .int .u32 0xbef9a3f7, .int .u32 0xc67178f2] := by kernel_rfl
theorem kw_size : kw.size = 64 := by simp [kw]
theorem kw_at (i : Nat) (h : i < 64) : kw[i]? = some (W (kAt i)) := by simp [kw, h]
theorem kw_one : kw.all (·.oneCell') = true := by
  rw [Array.all_eq_true_iff_forall_mem]
  intro v hv
  simp only [kw, List.mem_toArray, List.mem_map] at hv
  obtain ⟨i, _, rfl⟩ := hv
  rfl
set_option maxRecDepth 100000 in
set_option maxHeartbeats 1000000 in
theorem constants_any (w : World) :
    Calls Tryz.prog 91 #[] w fun e w' => e = .returned (.agg kw) ∧ Below w.heap.size w w' := by
  go_enter Tryz.func91, Tryz.ntmps91
  go_wp2_with (first | (refine wpList_build rfl 86 _ rfl (by kernel_rfl) ?_) | (refine wpList_store_row rfl 86 _ _ rfl _ kw rfl (by rw [kw_lit]; kernel_rfl) 86 (Array.replicate 64 (.int .u32 0)) (by exact heap_alloc_new w _) (by rw [size126, kw_size]) (by rw [kw_size]; simp) kw_one ?_))
  exact bodyPost_ret (results_cell_row rfl _ _ w.heap.size 86 _ (0, 0) _ rfl (Blk.row (Blk.new _ _ _) _) Tryz.underlying86 rfl (by rw [size126, kw_size])) rfl ⟨rfl, below_setRow ((Below.refl _ _).alloc (Nat.le_refl _) _) (Nat.le_refl _) _⟩

/-- Eight words as cells; a digest's cells. -/
def scells (s : S8) : Array Value := #[W s.a, W s.b, W s.c, W s.d, W s.e, W s.f, W s.g, W s.h]
def dcells (s : S8) (rv av : Value) : Array Value := #[W s.a, W s.b, W s.c, W s.d, W s.e, W s.f, W s.g, W s.h, rv, av]
/-- A digest's cells, so many of the words added. -/
def dpart (s r : S8) (rv av : Value) (k : Nat) : Array Value := (((List.range 8).map fun i => if i < k then W (outAt s i + outAt r i) else W (outAt s i)) ++ [rv, av]).toArray
theorem dpart_zero (s r : S8) (rv av : Value) : dpart s r rv av 0 = dcells s rv av := by rfl
theorem dpart_all (s r : S8) (rv av : Value) : dpart s r rv av 8 = dcells (addS s r) rv av := by rfl
theorem dpart_at (s r : S8) (rv av : Value) (k i : Nat) (h : k ≤ i) (hk : i < 8) : (dpart s r rv av k)[i]? = some (W (outAt s i)) := by
  have : ¬ i < k := by omega
  simp [dpart, List.getElem?_append_left, this, hk]
theorem dpart_set (s r : S8) (rv av : Value) (k : Nat) (h : k < 8) : (dpart s r rv av k).setIfInBounds k (W (outAt s k + outAt r k)) = dpart s r rv av (k + 1) := by
  apply Array.ext_getElem?
  intro i
  rw [Array.getElem?_setIfInBounds]
  simp only [dpart, List.size_toArray, List.length_append, List.length_map, List.length_range, List.length_cons, List.length_nil, List.getElem?_toArray]
  by_cases e : k = i
  · subst e
    rw [if_pos rfl, if_pos (by omega), List.getElem?_append_left (by simp; omega)]
    simp [h]
  · rw [if_neg e]
    by_cases hi : i < 8
    · rw [List.getElem?_append_left (by simp; omega), List.getElem?_append_left (by simp; omega)]
      simp only [List.getElem?_map, List.getElem?_range hi, Option.map_some]
      by_cases h2 : i < k
      · rw [if_pos h2, if_pos (by omega)]
      · rw [if_neg h2, if_neg (by omega)]
    · rw [List.getElem?_append_right (by simp; omega), List.getElem?_append_right (by simp; omega)]
      simp
theorem scells_at (r : S8) (k : Nat) (h : k < 8) : (scells r)[k]? = some (W (outAt r k)) := by
  match k, h with
  | 0, _ => rfl
  | 1, _ => rfl
  | 2, _ => rfl
  | 3, _ => rfl
  | 4, _ => rfl
  | 5, _ => rfl
  | 6, _ => rfl
  | 7, _ => rfl

theorem scells_one (s : S8) : (scells s).all (·.oneCell') = true := by
  simp [scells, Value.oneCell']
theorem dig_range {w : World} {D : Nat} {s : S8} {rv av : Value} (h : Blk w D 119 (dcells s rv av)) : w.rangeAt D 0 (scells s).toList := by
  have := World.rangeAt_of_block (w := w) h 0 8
  exact this
theorem heap_alloc_at (w : World) (o : Obj) {g : Nat} (h : g = w.heap.size) : (w.alloc o).heap[g]? = some o := by
  subst h; exact heap_alloc_new w o
set_option maxRecDepth 100000 in
set_option maxHeartbeats 2000000 in
theorem turn_any (D b o n c : Nat) (f : Nat → UInt8) (s : S8) (rv av : Value) (w : World) (hn : 64 ≤ n) (hn2 : n ≤ 9223372036854775807) (hb : BytesAt w b o 64 f) (hblt : b < w.heap.size)
    (hD : Blk w D 119 (dcells s rv av)) :
    Calls Tryz.prog 77 #[.pointer (some ⟨D, 0, none⟩), .slice (some ⟨b, o, none⟩) n c] w fun e w' => e = .returned (.tuple #[]) ∧ Blk w' D 119 (dcells (comp s f) rv av) ∧ w.grownBy w' (some D) := by
  go_enter Tryz.func77, Tryz.ntmps77
  go_wp2_with fail
  refine (constants_any _).mono ?_
  rintro e w1 ⟨rfl, hb1⟩
  go_wp2_with fail
  refine (schedule_any b o n c f _ hn hn2 (hb.below hb1 hblt) (by have := hb1.size; omega)).mono ?_
  rintro e w2 ⟨rfl, hb2⟩
  have hbw2 : Below w.heap.size w w2 := hb1.trans (hb2.mono hb1.size)
  have hDlt := hD.lt
  have hDw2 : Blk w2 D 119 (dcells s rv av) := hD.below hbw2 hDlt
  have hsz := hbw2.size
  have hA : Blk ((w2.alloc (.cells z64 86)).alloc (.cells z64 86)) w2.heap.size 86 z64 := (Blk.new _ _ _).alloc _
  have hB : Blk (((w2.alloc (.cells z64 86)).alloc (.cells z64 86)).setRow w2.heap.size kw) (w2.heap.size + 1) 86 z64 := Blk.rowFar (heap_alloc2_new w2 _ _) (by omega) _
  have hC : Blk ((((w2.alloc (.cells z64 86)).alloc (.cells z64 86)).setRow w2.heap.size kw).setRow (w2.heap.size + 1) (swk f 64)) D 119 (dcells s rv av) := Blk.rowFar (Blk.rowFar ((hDw2.alloc _).alloc _) (by omega) _) (by omega) _
  have hE : Blk (((((w2.alloc (.cells z64 86)).alloc (.cells z64 86)).setRow w2.heap.size kw).setRow (w2.heap.size + 1) (swk f 64)).alloc (.cells z8 63)) (w2.heap.size + 2) 63 z8 := heap_alloc_at _ _ (by simp)
  go_wp2_with (first
     | (refine wpList_alN (d := 4) z64 zero126 w2.heap.size rfl (wpList_alN (d := 5) z64 zero126 (w2.heap.size + 1) (by simp) (wpList_st_row w2.heap.size kw rfl rfl 86 z64 hA (by rw [size126, kw_size]) (by rw [kw_size]; rfl) kw_one (wpList_st_row (w2.heap.size + 1) (swk f 64) rfl rfl 86 z64 hB (by rw [size126, swk_size]) (by rw [swk_size]; rfl) (swk_one _ _) ?_))); simp only [List.setIfInBounds_toArray, List.set_cons_succ, List.set_cons_zero])
     | (refine wpList_ld_mid (d := 19) D 0 (scells s).toList rfl (dig_range hC) Tryz.underlying63 rfl (by rw [size38]; rfl) (wpList_alN (d := 6) z8 zero38 (w2.heap.size + 2) (by simp) (wpList_st_row (w2.heap.size + 2) (scells s) rfl rfl 63 z8 hE (by rw [size38]; rfl) rfl (scells_one s) ?_)); simp only [List.setIfInBounds_toArray, List.set_cons_succ, List.set_cons_zero]))
  have hSz : ((w2.alloc (Obj.cells z64 86)).alloc (Obj.cells z64 86)).heap.size = w2.heap.size + 2 := by simp
  have hK3 : Blk (((((w2.alloc (.cells z64 86)).alloc (.cells z64 86)).setRow w2.heap.size kw).setRow (w2.heap.size + 1) (swk f 64)).alloc (.cells z8 63)) w2.heap.size 86 kw := ((hA.row kw).rowFar (by omega) _).alloc _
  have hW3 : Blk (((((w2.alloc (.cells z64 86)).alloc (.cells z64 86)).setRow w2.heap.size kw).setRow (w2.heap.size + 1) (swk f 64)).alloc (.cells z8 63)) (w2.heap.size + 1) 86 (swk f 64) := (hB.row _).alloc _
  have hD3 := hC.alloc (.cells z8 63)
  have hB3 : Below w2.heap.size w2 (((((w2.alloc (.cells z64 86)).alloc (.cells z64 86)).setRow w2.heap.size kw).setRow (w2.heap.size + 1) (swk f 64)).alloc (.cells z8 63)) :=
    (below_setRow (below_setRow (((Below.refl _ _).alloc (Nat.le_refl _) _).alloc (by simp) _) (Nat.le_refl _) _) (by omega) _).alloc (by simp; omega) _
  clear hA hB hC hSz
  go_loopw [20] (fun i wr => ∃ k : Nat, k ≤ 64 ∧ i = .int .i64 k ∧ Blk wr w2.heap.size 86 kw ∧ Blk wr (w2.heap.size + 1) 86 (swk f 64) ∧ Blk wr (w2.heap.size + 2) 63 (scells (roundsS f s k)) ∧ Below w2.heap.size w2 wr) (fun i _ => 64 - (intOf i).toNat)
  case atStart => exact ⟨0, by omega, rfl, hK3.rowFar (by omega) _, hW3.rowFar (by omega) _, hE.row _, below_setRow hB3 (by omega) _⟩
  case round =>
    clear hK3 hW3 hD3 hB3 hE
    obtain ⟨k, hk, rfl, hKk, hWk, hSk, hbk⟩ := hrel
    by_cases h1 : k < 64
    · obtain ⟨r, hr⟩ : ∃ r, r = roundsS f s k := ⟨_, rfl⟩
      rw [← hr] at hSk
      have HR := Lib.hid hr
      clear hr
      have c0 : wr.cell? ⟨w2.heap.size + 2, 0, none⟩ = some (W r.a) := by rw [hSk.cell]; rfl
      have c1 : wr.cell? ⟨w2.heap.size + 2, 1, none⟩ = some (W r.b) := by rw [hSk.cell]; rfl
      have c2 : wr.cell? ⟨w2.heap.size + 2, 2, none⟩ = some (W r.c) := by rw [hSk.cell]; rfl
      have c3 : wr.cell? ⟨w2.heap.size + 2, 3, none⟩ = some (W r.d) := by rw [hSk.cell]; rfl
      have c4 : wr.cell? ⟨w2.heap.size + 2, 4, none⟩ = some (W r.e) := by rw [hSk.cell]; rfl
      have c5 : wr.cell? ⟨w2.heap.size + 2, 5, none⟩ = some (W r.f) := by rw [hSk.cell]; rfl
      have c6 : wr.cell? ⟨w2.heap.size + 2, 6, none⟩ = some (W r.g) := by rw [hSk.cell]; rfl
      have c7 : wr.cell? ⟨w2.heap.size + 2, 7, none⟩ = some (W r.h) := by rw [hSk.cell]; rfl
      have cK : wr.cell? ⟨w2.heap.size, k, none⟩ = some (W (kAt k)) := by rw [hKk.cell]; exact kw_at k h1
      have cW : wr.cell? ⟨w2.heap.size + 1, k, none⟩ = some (W (sched f k)) := by rw [hWk.cell]; exact swk_at f 64 k h1 (by omega)
      go_wp2
      go_quiet (fail)
      go_wp2
      go_quiet ((go_at_call 93; exact quiet_add_same (rotl _ _ (by decide) (by decide) _)))
      go_wp2
      go_quiet ((go_at_call 93; exact quiet_add_same (rotl _ _ (by decide) (by decide) _)))
      go_wp2_with (refine wpList_st_row (w2.heap.size + 2) (scells (stepS r (kAt k) (sched f k))) rfl rfl 63 _ (hSk.drewN _) (by rw [size38]; rfl) rfl (scells_one _) ?_)
      go_roundw
      case rel => exact ⟨k + 1, by omega, by go_num, (hKk.drewN _).rowFar (by omega) _, (hWk.drewN _).rowFar (by omega) _, by rw [HR.out]; exact (hSk.drewN _).row _, below_setRow (below_drewN hbk _) (by omega) _⟩
      case measure => simp [intOf]; omega
    · obtain rfl : k = 64 := by omega
      obtain ⟨r, hr⟩ : ∃ r, r = roundsS f s 64 := ⟨_, rfl⟩
      rw [← hr] at hSk
      have HR := Lib.hid hr
      clear hr hKk hWk
      obtain ⟨wo, rfl⟩ : ∃ wo : World, wo = wr := ⟨_, rfl⟩
      have hDr : Blk wo D 119 (dcells s rv av) := hDw2.below hbk (by omega)
      go_wp2
      go_loopw [102] (fun i wq => ∃ k : Nat, k ≤ 8 ∧ i = .int .i64 k ∧ Blk wq D 119 (dpart s r rv av k) ∧ wo.grownBy wq (some D)) (fun i _ => 8 - (intOf i).toNat)
      case atStart => exact ⟨0, by omega, rfl, hDr, World.grownBy.refl _ _⟩
      case round =>
        obtain ⟨k, hk, rfl, hDk, hgr⟩ := hrel
        by_cases h2 : k < 8
        · have e0 : wr.cell? ⟨D, k, none⟩ = some (W (outAt s k)) := by rw [hDk.cell]; exact dpart_at _ _ _ _ _ _ (Nat.le_refl _) h2
          have hSq : Blk wr (w2.heap.size + 2) 63 (scells r) := hSk.grown hgr (by simp; omega)
          have e1 : wr.cell? ⟨w2.heap.size + 2, k, none⟩ = some (W (outAt r k)) := by rw [hSq.cell]; exact scells_at _ _ h2
          have ef := hDk.frozen k
          go_wp2
          refine wp_region_drew_tail 13 (by kernel_rfl) (by kernel_rfl) ?_
          simp only [List.take_succ_cons, List.take_zero, List.drop_succ_cons, List.drop_zero]
          repeat (go_big_quiet_step (fail))
          refine wpQuiet_nil ?_
          rintro _ ⟨nq, rfl⟩
          go_wp2
          go_roundw
          case rel => exact ⟨k + 1, by omega, by go_num, by rw [← dpart_set s r rv av k h2]; exact (hDk.drewN nq).set_ k _, grown_setCell (grown_drewN hgr nq) rfl _⟩
          case measure => simp [intOf]; omega
        · obtain rfl : k = 8 := by omega
          go_wp2
          go_end0
          refine ⟨rfl, by rw [comp, ← HR.out, ← dpart_all]; exact hDk, ?_⟩
          exact grown_trans (grown_below hbw2 (Nat.le_refl _) _) (grown_trans (grown_below hbk (Nat.le_refl _) _) hgr)
end Go.Proofs.YtmhbkilpllgchaaGreatDoor
