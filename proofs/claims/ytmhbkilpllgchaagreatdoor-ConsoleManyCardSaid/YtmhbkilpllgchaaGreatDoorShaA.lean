/- The walk of package sha's schedule, and of the two ways to turn a word. -/
import Derived.Test.YtmhbkilpllgchaaGreatDoorProg
import Derived.Test.YtmhbkilpllgchaaGreatDoorRegion
import Derived.WalkKit
import Derived.ProofKit
import Derived.Lib.Hide
import Derived.Deep.QuietTactic
import Derived.BigQuiet
namespace Go.Proofs.YtmhbkilpllgchaaGreatDoor
open Go.RowKit BigFrame

theorem and31 (n : Int) : bits .and .u64 (IntKind.u64.wrap n) 31 = n % 32 := by
  have e : IntKind.u64.wrap n = n % 18446744073709551616 := by simp [IntKind.wrap, IntKind.bits, IntKind.signed]
  rw [e]
  have h0 : 0 ≤ n % 18446744073709551616 := by omega
  obtain ⟨m, hm⟩ := Int.eq_ofNat_of_zero_le h0
  have hlt : m < 18446744073709551616 := by omega
  rw [hm]
  show IntKind.u64.wrap ((BitVec.ofInt 64 (m : Int) &&& BitVec.ofInt 64 31).toNat : Int) = _
  have e2 : (BitVec.ofInt 64 (m : Int) &&& BitVec.ofInt 64 31).toNat = m % 32 := by
    rw [BitVec.toNat_and, BitVec.ofInt_natCast, BitVec.toNat_ofNat, Nat.mod_eq_of_lt (by omega)]
    exact Nat.and_two_pow_sub_one_eq_mod m 5
  rw [e2]
  simp [IntKind.wrap, IntKind.bits, IntKind.signed]
  omega

/-- bits.RotateLeft32 by a number below 0. -/
theorem rotl (x : U32) (n : Int) (hlo : -32 < n) (hhi : n < 0) (w : World) : Calls Tryz.prog 93 #[W x, .int .i64 n] w fun e w' => e = .returned (W (rotr x (-n).toNat)) ∧ w' = w := by
  obtain ⟨k, rfl⟩ : ∃ k : Nat, n = -(k : Int) := ⟨(-n).toNat, by omega⟩
  have hk0 : 0 < k := by omega
  have hk1 : k < 32 := by omega
  rw [show (-(-(k : Int))).toNat = k from by omega]
  have e1 : bits .and .u64 (IntKind.u64.wrap (-(k:Int))) 31 = 32 - (k:Int) := by rw [and31]; omega
  have e2 : (32 - (k:Int)).toNat = 32 - k := by omega
  have e3 : (32 - (32 - (k:Int))) = (k : Int) := by omega
  clear hlo hhi
  go_enter Tryz.func93, Tryz.ntmps93
  go_wp2
  go_ret
  exact ⟨by rw [rotl_rotr]; rfl, rfl⟩

/-- The reference's rot. -/
theorem rotx (x : U32) (n : Int) (hlo : 0 < n) (hhi : n < 32) (w : World) : Calls Tryz.prog 49 #[W x, .int .i64 n] w fun e w' => e = .returned (W (rotr x n.toNat)) ∧ ∃ m, w' = w.drewN m := by
  obtain ⟨k, rfl⟩ : ∃ k : Nat, n = (k : Int) := ⟨n.toNat, by omega⟩
  have e2 : (32 - (k:Int)).toNat = 32 - k := by omega
  rw [Int.toNat_natCast]
  go_enter Tryz.func49, Tryz.ntmps49
  go_wp2
  go_quiet (fail)
  go_wp2
  go_ret
  exact ⟨rfl, nq, rfl⟩

def swk (f : Nat → UInt8) (k : Nat) : Array Value := ((List.range 64).map fun i => if i < k then W (sched f i) else W 0).toArray
theorem swk_zero (f : Nat → UInt8) : swk f 0 = Array.replicate 64 (.int .u32 0) := by rfl
theorem swk_at (f : Nat → UInt8) (k i : Nat) (h : i < k) (hk : k ≤ 64) : (swk f k)[i]? = some (W (sched f i)) := by
  have : i < 64 := by omega
  simp [swk, this, h]
theorem swk_more (f : Nat → UInt8) (k i : Nat) (h : k ≤ i) (hk : i < 64) : (swk f k)[i]? = some (W 0) := by
  have : ¬ i < k := by omega
  simp [swk, this, hk]
theorem swk_set (f : Nat → UInt8) (k : Nat) (h : k < 64) : (swk f k).setIfInBounds k (W (sched f k)) = swk f (k + 1) := by
  apply Array.ext_getElem?
  intro i
  rw [Array.getElem?_setIfInBounds]
  simp only [swk, List.size_toArray, List.length_map, List.length_range, List.getElem?_toArray, List.getElem?_map]
  by_cases e : k = i
  · subst e
    simp [h]
  · rw [if_neg e]
    by_cases hi : i < 64
    · simp only [List.getElem?_range hi, Option.map_some]
      by_cases h2 : i < k
      · rw [if_pos h2, if_pos (by omega)]
      · rw [if_neg h2, if_neg (by omega)]
    · simp [List.getElem?_eq_none (show (List.range 64).length ≤ i by simp; omega)]
theorem swk_size (f : Nat → UInt8) (k : Nat) : (swk f k).size = 64 := by simp [swk]
theorem swk_one (f : Nat → UInt8) (k : Nat) : (swk f k).all (·.oneCell') = true := by
  rw [Array.all_eq_true_iff_forall_mem]
  intro v hv
  simp only [swk, List.mem_toArray, List.mem_map] at hv
  obtain ⟨i, _, rfl⟩ := hv
  split <;> rfl

/-- The zero values of the three arrays, by name. -/
def z64 : Array Value := Array.replicate 64 (.int .u32 0)
def z8 : Array Value := Array.replicate 8 (.int .u32 0)
def z32 : Array Value := Array.replicate 32 (.int .u8 0)
theorem zero126 (w : World) : (zeroValue 86).run Tryz.prog w = .ok (.agg z64) w := by kernel_rfl
theorem zero38 (w : World) : (zeroValue 63).run Tryz.prog w = .ok (.agg z8) w := by kernel_rfl
theorem zero29 (w : World) : (zeroValue 36).run Tryz.prog w = .ok (.agg z32) w := by kernel_rfl
theorem size126 : (Tryz.prog.info? 86).map (·.size) = some 64 := by kernel_rfl
theorem size38 : (Tryz.prog.info? 63).map (·.size) = some 8 := by kernel_rfl
theorem size29 : (Tryz.prog.info? 36).map (·.size) = some 32 := by kernel_rfl

theorem sched_sum (a b c d : U32) : ((a + b) + c) + d = ((a + c) + b) + d := by
  rw [BitVec.add_assoc a b c, BitVec.add_comm b c, BitVec.add_assoc a c b]
set_option maxRecDepth 100000 in
set_option maxHeartbeats 2000000 in
theorem schedule_any (b o n c : Nat) (f : Nat → UInt8) (w : World) (hn : 64 ≤ n) (hn2 : n ≤ 9223372036854775807) (hb : BytesAt w b o 64 f) (hblt : b < w.heap.size) :
    Calls Tryz.prog 92 #[.slice (some ⟨b, o, none⟩) n c] w fun e w' => e = .returned (.agg (swk f 64)) ∧ Below w.heap.size w w' := by
  go_enter Tryz.func92, Tryz.ntmps92
  go_wp2
  obtain ⟨w1, hw1⟩ : ∃ w1, w1 = w.alloc (Obj.cells (Array.replicate 64 (Value.int .u32 0)) 86) := ⟨_, rfl⟩
  obtain ⟨w2, hw2⟩ : ∃ w2, w2 = w1.alloc (Obj.cells (Array.replicate 64 (Value.int .u32 0)) 86) := ⟨_, rfl⟩
  have hB1 : Blk w2 w.heap.size 86 (Array.replicate 64 (Value.int .u32 0)) := by rw [hw2, hw1]; exact (Blk.new _ _ _).alloc _
  have hB2 : Blk w2 (w.heap.size + 1) 86 (swk f 0) := by
    rw [hw2]; have := Blk.new w1 86 (Array.replicate 64 (Value.int .u32 0))
    rw [swk_zero]
    have e : w1.heap.size = w.heap.size + 1 := by rw [hw1]; simp
    rwa [e] at this
  have hbel : Below w.heap.size w w2 := by rw [hw2, hw1]; exact ((Below.refl _ _).alloc (Nat.le_refl _) _).alloc (by simp) _
  change Code.wp _ _ _ _ ((w.alloc (Obj.cells (Array.replicate 64 (Value.int .u32 0)) 86)).alloc (Obj.cells (Array.replicate 64 (Value.int .u32 0)) 86))
  rw [← hw1, ← hw2]
  clear hw1 hw2 w1
  go_loopw [7] (fun i wr => ∃ k : Nat, k ≤ 64 ∧ i = .int .i64 k ∧ Blk wr (w.heap.size + 1) 86 (swk f k) ∧ Below (w.heap.size + 1) w2 wr) (fun i _ => 64 - (intOf i).toNat)
  case atStart => exact ⟨0, by omega, rfl, hB2, Below.refl _ _⟩
  case round =>
    obtain ⟨k, hk, rfl, hBk, hbk⟩ := hrel
    have hbw : Below w.heap.size w wr := hbel.trans (hbk.mono (by omega))
    by_cases h1 : k < 16
    · have hbb : BytesAt wr b o 64 f := hb.below hbw hblt
      have c0 := hbb (4 * k) (by omega)
      have c1 := hbb (4 * k + 1) (by omega)
      have c2 := hbb (4 * k + 2) (by omega)
      have c3 := hbb (4 * k + 3) (by omega)
      have hfz := hBk.frozen k
      have hcl : wr.cell? ⟨w.heap.size + 1, k, none⟩ = some (W 0) := by rw [hBk.cell]; exact swk_more f k k (by omega) (by omega)
      have Hm := Lib.hid (sched_lo f k h1)
      go_wp2
      refine wp_region_drew_tail 35 (by kernel_rfl) (by kernel_rfl) ?_
      simp only [List.take_succ_cons, List.take_zero, List.drop_succ_cons, List.drop_zero]
      repeat (go_big_quiet_step (fail))
      refine wpQuiet_nil ?_
      rintro _ ⟨nq, rfl⟩
      go_wp2
      go_roundw
      case rel => exact ⟨k + 1, by omega, by go_num, by rw [← swk_set f k (by omega), Hm.out]; exact (hBk.drewN nq).set_ k _, (below_drewN hbk nq).setCell (p := ⟨w.heap.size + 1, k, none⟩) (Nat.le_refl _) _⟩
      case measure => simp [intOf]; omega
    · by_cases h2 : k < 64
      · have hfz := hBk.frozen k
        have hcl : wr.cell? ⟨w.heap.size + 1, k, none⟩ = some (W 0) := by rw [hBk.cell]; exact swk_more f k k (by omega) (by omega)
        have d15 : wr.cell? ⟨w.heap.size + 1, k - 15, none⟩ = some (W (sched f (k - 15))) := by rw [hBk.cell]; exact swk_at f k _ (by omega) (by omega)
        have d2 : wr.cell? ⟨w.heap.size + 1, k - 2, none⟩ = some (W (sched f (k - 2))) := by rw [hBk.cell]; exact swk_at f k _ (by omega) (by omega)
        have d16 : wr.cell? ⟨w.heap.size + 1, k - 16, none⟩ = some (W (sched f (k - 16))) := by rw [hBk.cell]; exact swk_at f k _ (by omega) (by omega)
        have d7 : wr.cell? ⟨w.heap.size + 1, k - 7, none⟩ = some (W (sched f (k - 7))) := by rw [hBk.cell]; exact swk_at f k _ (by omega) (by omega)
        have Hm := Lib.hid (sched_hi f k (by omega))
        go_wp2
        go_quiet (fail)
        have d16' : (wr.drewN nq).cell? ⟨w.heap.size + 1, k - 16, none⟩ = some (W (sched f (k - 16))) := d16
        go_wp2
        refine wp_region_drew_tail 29 (by kernel_rfl) (by kernel_rfl) ?_
        simp only [List.take_succ_cons, List.take_zero, List.drop_succ_cons, List.drop_zero]
        repeat (go_big_quiet_step ((go_at_call 93; exact quiet_add_same (rotl _ _ (by decide) (by decide) _))))
        refine wpQuiet_nil ?_
        rintro _ ⟨nr, rfl⟩
        go_wp2
        go_roundw
        case rel => exact ⟨k + 1, by omega, by go_num, by rw [← swk_set f k (by omega), Hm.out, sched_sum]; exact (hBk.drewN _).set_ k _, (below_drewN hbk _).setCell (p := ⟨w.heap.size + 1, k, none⟩) (Nat.le_refl _) _⟩
        case measure => simp [intOf]; omega
      · obtain rfl : k = 64 := by omega
        go_wp2_with (first
          | (refine wpList_load_row rfl 86 _ rfl _ rfl 86 _ (0, 0) _ hBk Tryz.underlying86 rfl (by rw [size126, swk_size]) ?_)
          | (refine wpList_store_row rfl 86 _ _ rfl _ _ rfl rfl 86 _ (hB1.below hbk (by omega)) (by rw [size126, swk_size]) (by simp [swk_size]) (swk_one _ _) ?_))
        exact bodyPost_ret (results_cell_row rfl _ _ w.heap.size 86 _ (0, 0) _ rfl ((hB1.below hbk (by omega)).row _) Tryz.underlying86 rfl (by rw [size126, swk_size])) rfl ⟨rfl, below_setRow hbw (Nat.le_refl _) _⟩
end Go.Proofs.YtmhbkilpllgchaaGreatDoor
