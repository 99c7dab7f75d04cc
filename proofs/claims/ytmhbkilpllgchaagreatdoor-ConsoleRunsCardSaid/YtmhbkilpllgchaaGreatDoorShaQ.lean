/- The reference's Sha. -/
import Derived.Test.YtmhbkilpllgchaaGreatDoorShaR
import Derived.Deep.Cut
namespace Go.Proofs.YtmhbkilpllgchaaGreatDoor
open Go.RowKit BigFrame
set_option linter.unusedVariables false
set_option linter.unusedSimpArgs false

theorem grown_setRow {a w : World} {g : Nat} (h : a.grownBy w (some g)) (cs : Array Value) : a.grownBy (w.setRow g cs) (some g) :=
  ⟨h.os, h.tape, h.output, by simpa using h.size, fun i hi hne => (setRow_other w g i cs (fun e => hne (by rw [e]))).trans (h.block i hi hne)⟩
theorem grown_of_below {a w : World} (h : Below a.heap.size a w) : a.grownBy w none := ⟨h.os, h.tape, h.output, h.size, fun i hi _ => h.block i hi⟩
theorem run_mk (w : World) (N : Nat) (hN : N ≤ 140737488355328) {i0 : TypeInfo} (hi0 : Tryz.prog.info? 5 = some i0) (hz0 : i0.zero = some (.int .u8 0)) (hz1 : i0.size = 1) (hz2 : i0.bytes = 1) :
    (Instr.makeSlice 27 (.int .i64 (N : Int)) (.int .i64 (N : Int))).run Tryz.prog w = .ok (.slice (some ⟨w.heap.size, 0, none⟩) N N) (w.alloc (.cells ((List.replicate N 0).map B).toArray 5)) := by
  have hr := run_make (P := Tryz.prog) w 27 5 i0 (.int .u8 0) Tryz.underlying27 hi0 hz0 .i64 .i64 (N : Int) (N : Int) (by omega) (Int.le_refl _) (by rw [hz2]; omega) (by omega)
  have hm : madeCells (Value.int .u8 0).cells (N * i0.size) = ((List.replicate N 0).map B).toArray := by
    rw [hz1, Nat.mul_one]
    apply Array.ext_getElem?
    intro j
    by_cases hj : j < N
    · simp [madeCells, hj, Value.cells, Nat.mod_one]
    · simp [madeCells, hj]
  simpa only [Int.toNat_natCast, hm] using hr
theorem bt_extract (s : ByteArray) (q n i : Nat) (h : q + n ≤ s.size) (hi : i < n) : bt (s.extract q (q + n)) i = bt s (q + i) := by
  have e : (s.extract q (q + n)).data.toList = (s.data.toList.drop q).take n := by
    rw [ByteArray.data_extract, Array.toList_extract, List.extract_eq_take_drop, Nat.add_sub_cancel_left]
  unfold bt
  rw [e, List.getD_eq_getElem?_getD, List.getD_eq_getElem?_getD, List.getElem?_take_of_lt hi, List.getElem?_drop]
theorem hs_succ (S : S8) (l : List UInt8) (k : Nat) : Go.Proofs.YtmhbkilpllgchaaGreatDoor.hs S l (k + 1) = comp (Go.Proofs.YtmhbkilpllgchaaGreatDoor.hs S l k) (bts l (64 * k)) := rfl
theorem range_of_blk {w : World} {g : Nat} {t : TypeId} {cs : Array Value} (h : Blk w g t cs) : w.rangeAt g 0 cs.toList := fun j v hv => by
  rw [Nat.zero_add, h.cell]
  simpa using hv

set_option maxRecDepth 100000 in
set_option maxHeartbeats 3000000 in
theorem refsha_any (s : ByteArray) (w : World) (hs0 : s.size ≤ 576460752303423488) :
    Calls Tryz.prog 13 #[.string s] w fun e w' => e = .returned (.agg (bcells (sha s.data.toList))) ∧ Below w.heap.size w w' := by
  obtain ⟨i0, hi0, hz0, hz1, hz2⟩ := info_parts info5
  obtain ⟨l, hl⟩ : ∃ l, l = s.data.toList := ⟨_, rfl⟩
  obtain ⟨m, hm⟩ : ∃ m, m = s.size / 64 := ⟨_, rfl⟩
  rw [← hl]
  have hbt : ∀ i, bt s i = l.getD i 0 := fun i => by rw [hl]; rfl
  have hln : l.length = s.size := by rw [hl]; rfl
  have HH := Lib.hid (And.intro hl (And.intro hm (And.intro hbt hln)))
  clear hl hm hbt hln
  have hm1 : 64 * m ≤ s.size := by rw [HH.out.2.1]; omega
  have hm2 : s.size < 64 * m + 64 := by rw [HH.out.2.1]; omega
  have hmi : (s.size : Int) / 64 * 64 = ((64 * m : Nat) : Int) := by omega
  obtain ⟨L, eL⟩ : ∃ L, L = w.heap.size := ⟨_, rfl⟩
  have a1 : Blk (w.alloc (.cells z32 36)) L 36 z32 := by rw [eL]; exact Blk.new _ _ _
  have s1 : (w.alloc (.cells z32 36)).heap.size = L + 1 := by simp [eL]
  have b1 : Below L w (w.alloc (.cells z32 36)) := (Below.refl _ _).alloc (by omega) _
  obtain ⟨w1, e1⟩ : ∃ w1, w1 = w.alloc (.cells z32 36) := ⟨_, rfl⟩
  rw [← e1] at a1 s1 b1
  have a2 : Blk (w1.alloc (.cells z8 63)) (L + 1) 63 z8 := by rw [← s1]; exact Blk.new _ _ _
  have hG : Blk ((w1.alloc (.cells z8 63)).setRow (L + 1) (scells s0)) (L + 1) 63 (scells s0) := a2.row _
  have hL := (a1.alloc (.cells z8 63)).rowFar (show L ≠ L + 1 by omega) (scells s0)
  have hb := below_setRow (b1.alloc (by omega) (.cells z8 63)) (show L ≤ L + 1 by omega) (scells s0)
  obtain ⟨w2, e2⟩ : ∃ w2, w2 = (w1.alloc (.cells z8 63)).setRow (L + 1) (scells s0) := ⟨_, rfl⟩
  rw [← e2] at hG hL hb
  have E := Lib.hid (And.intro eL.symm (And.intro e1 e2))
  rw [← eL]
  clear eL e1 e2
  go_enter Tryz.func13, Tryz.ntmps13
  go_wp2_with (first
    | (refine wpList_alN (d := 2) z32 zero29 L E.out.1 ?_; simp only [List.setIfInBounds_toArray, List.set_cons_succ, List.set_cons_zero]; rw [← E.out.2.1])
    | (refine wpList_bd (d := 10) (scells s0) (by kernel_rfl) (wpList_alN (d := 3) z8 zero38 (L + 1) s1 (wpList_st_row (L + 1) (scells s0) rfl rfl 63 z8 a2 (by rw [size38]; rfl) rfl (scells_one _) ?_)); simp only [List.setIfInBounds_toArray, List.set_cons_succ, List.set_cons_zero]; rw [← E.out.2.2]))
  obtain ⟨wo, rfl⟩ : ∃ wo : World, wo = w2 := ⟨_, rfl⟩
  have hlt := hG.lt
  go_loopw [5] (fun i wr => ∃ k q : Nat, q = 64 * k ∧ k ≤ m ∧ i = .int .i64 (q : Int) ∧ Blk wr (L + 1) 63 (scells (Go.Proofs.YtmhbkilpllgchaaGreatDoor.hs s0 l k)) ∧ wo.grownBy wr (some (L + 1))) (fun i _ => 64 * m - (intOf i).toNat)
  case atStart => exact ⟨0, 0, rfl, by omega, rfl, hG, World.grownBy.refl _ _⟩
  case round =>
    clear hG a2 s1 a1 b1
    obtain ⟨k, q, hq, hk, rfl, hGk, hgk⟩ := hrel
    obtain ⟨S, hS⟩ : ∃ S, S = Go.Proofs.YtmhbkilpllgchaaGreatDoor.hs s0 l k := ⟨_, rfl⟩
    rw [← hS] at hGk
    have HS := Lib.hid hS
    clear hS
    by_cases h1 : k < m
    · have hk2 : q + 64 ≤ s.size := by omega
      have hk3 : (q : Int) + 64 ≤ (s.size : Int) := by omega
      have hk4 : (q : Int) < 64 * (m : Int) := by omega
      have hw : IntKind.i64.wrap ((q : Int) + 64) = (q : Int) + 64 := by rw [IntKind.wrap_i64]; omega
      have hsl : ∀ w', (Instr.slice 9 (.string s) (some (.int .i64 (q : Int))) (some (.int .i64 ((q : Int) + 64))) none).run Tryz.prog w' = .ok (.string (s.extract q (q + 64))) w' := fun w' => by
        have := run_slice_string (P := Tryz.prog) w' 9 s .i64 .i64 (q : Int) ((q : Int) + 64) Tryz.underlying9 (by omega) (by omega) (by omega)
        rwa [Int.toNat_natCast, show ((q : Int) + 64).toNat = q + 64 by omega] at this
      have hsz : (s.extract q (q + 64)).size = 64 := by rw [ByteArray.size_extract]; omega
      obtain ⟨T, hT⟩ : ∃ T, T = Go.Proofs.YtmhbkilpllgchaaGreatDoor.hs s0 l (k + 1) := ⟨_, rfl⟩
      have hcmp : comp S (bt (s.extract q (q + 64))) = T := by
        rw [hT, hs_succ, ← HS.out]
        refine comp_congr (fun j hj => ?_) S
        rw [bt_extract s q 64 j hk2 hj, HH.out.2.2.1, hq]
        rfl
      have HQ := Lib.hid (And.intro hq (And.intro hsz hcmp))
      have HT := Lib.hid hT
      clear hsz hcmp hT
      clear hq
      go_wp2
      refine wp_region_drew_tail 6 (by kernel_rfl) (by kernel_rfl) ?_
      simp only [List.take_succ_cons, List.take_zero, List.drop_succ_cons, List.drop_zero]
      refine wpQuiet_ld_mid (d := 20) (L + 1) 0 (scells S).toList rfl (by rintro _ ⟨nq, rfl⟩; exact range_of_blk (hGk.drewN nq)) Tryz.underlying63 rfl (by rw [size38]; rfl) ?_
      simp only [List.setIfInBounds_toArray, List.set_cons_succ, List.set_cons_zero]
      repeat (go_big_quiet_step (fail))
      refine wpQuiet_nil ?_
      rintro _ ⟨nq, rfl⟩
      clear hsl hw
      go_wp2_with fail
      refine (block_any (s.extract q (q + 64)) S (wr.drewN nq) HQ.out.2.1).mono ?_
      rintro e w3 ⟨rfl, hb3⟩
      rw [HQ.out.2.2]
      have hG3 : Blk w3 (L + 1) 63 (scells S) := (hGk.drewN nq).below hb3 hGk.lt
      go_wp2_with (refine wpList_st_row (L + 1) (scells T) rfl rfl 63 _ hG3 (by rw [size38]; rfl) rfl (scells_one _) ?_)
      go_roundw
      case rel => exact ⟨k + 1, q + 64, by rw [HQ.out.1]; omega, by omega, by go_num, by rw [← HT.out]; exact hG3.row _, grown_setRow (grown_trans hgk (grown_trans (grown_drewN (World.grownBy.refl _ _) nq) (grown_below hb3 (Nat.le_refl _) _))) _⟩
      case measure => simp [intOf]; omega
    · obtain rfl : k = m := by omega
      subst hq
      go_wp2
      obtain ⟨R1, hR1⟩ : ∃ R1, R1 = s.extract (64 * k) s.size ++ (⟨#[128]⟩ : ByteArray) := ⟨_, rfl⟩
      rw [← hR1]
      have hR1s : R1.size = s.size - 64 * k + 1 := by rw [hR1, ByteArray.size_append, ByteArray.size_extract]; simp; rfl
      have hR1l : R1.data.toList = l.drop (64 * k) ++ [0x80] := by
        rw [hR1, ByteArray.data_append, Array.toList_append, ByteArray.data_extract, Array.toList_extract, List.extract_eq_take_drop, ← HH.out.1, List.take_of_length_le (by rw [List.length_drop, HH.out.2.2.2]; exact Nat.le_refl _)]
      obtain ⟨c, hc⟩ : ∃ c, c = R1.size % 64 := ⟨_, rfl⟩
      obtain ⟨z, hz⟩ : ∃ z, z = (120 - c) % 64 := ⟨_, rfl⟩
      obtain ⟨y, hy⟩ : ∃ y, y = s.size * 8 := ⟨_, rfl⟩
      have hzf : z = zerosFor l.length := by rw [hz, hc, hR1s, zerosFor, HH.out.2.2.2]; omega
      have hA : (R1.size : Int).tmod 64 = (c : Int) := by rw [Int.tmod_eq_emod_of_nonneg (by omega)]; omega
      have hB : IntKind.i64.wrap (120 - (c : Int)) = 120 - (c : Int) := by rw [IntKind.wrap_i64]; omega
      have hC : (120 - (c : Int)).tmod 64 = (z : Int) := by rw [Int.tmod_eq_emod_of_nonneg (by omega)]; omega
      have hD : IntKind.i64.wrap ((s.size : Int) * 8) = (y : Int) := by rw [IntKind.wrap_i64]; omega
      have hz64 : z < 64 := by omega
      have hy63 : y ≤ 9223372036854775807 := by omega
      obtain ⟨Z, hZ⟩ : ∃ Z, Z = ((List.replicate z 0).map B).toArray := ⟨_, rfl⟩
      obtain ⟨Zs, hZs⟩ : ∃ Zs : ByteArray, Zs = ⟨(List.replicate z 0).toArray⟩ := ⟨_, rfl⟩
      have hZsz : Zs.size = z := by rw [hZs]; simp [ByteArray.size]
      have hmk : ∀ w' : World, (Instr.makeSlice 27 (.int .i64 (z : Int)) (.int .i64 (z : Int))).run Tryz.prog w' = .ok (.slice (some ⟨w'.heap.size, 0, none⟩) z z) (w'.alloc (.cells Z 5)) := fun w' => by
        rw [hZ]
        exact run_mk w' z (by omega) hi0 hz0 hz1 hz2
      have hcv : ∀ (w' : World) (g : Nat), w'.heap[g]? = some (.cells Z 5 (0, 0)) → (convert 27 9 (.slice (some ⟨g, 0, none⟩) z z)).run Tryz.prog w' = .ok (.string Zs) w' := fun w' g hg => by
        have hb : Blk w' g 5 ((List.replicate z 0).map B).toArray := by rw [← hZ]; exact hg
        have := run_str w' g z (List.replicate z 0) hb
        rw [List.length_replicate] at this
        rw [hZs]
        exact this
      obtain ⟨Bs, hBs⟩ : ∃ Bs : ByteArray, Bs = ⟨(beL 8 y).toArray⟩ := ⟨_, rfl⟩
      have hBsz : Bs.size = 8 := by rw [hBs]; simp [ByteArray.size, beL_length]
      have hR1b : R1.size ≤ 64 := by omega
      have hbe := fun w' : World => be_any y 8 w' hy63 (by omega)
      rw [← hBs] at hbe
      obtain ⟨Rb, hRb⟩ : ∃ Rb : ByteArray, Rb = R1 ++ Zs ++ Bs := ⟨_, rfl⟩
      have hRbl : Rb.data.toList = restL l ++ padL l.length := by
        rw [hRb, ByteArray.data_append, ByteArray.data_append, Array.toList_append, Array.toList_append, hR1l, hZs, hBs, restL, padL, HH.out.2.2.2, ← HH.out.2.1, hy, ← HH.out.2.2.2, ← hzf]
        simp
      have HR := Lib.hid (And.intro hR1 (And.intro hz (And.intro hc (And.intro hy (And.intro hZ (And.intro hZs (And.intro hBs (And.intro hRb (And.intro hRbl hzf)))))))))
      clear hR1 hz hc hy hZ hZs hBs hRb hRbl hzf hR1l hR1s
      have hgw : World.grownBy wr wr none := World.grownBy.refl _ _
      go_cut [5, 6] from 10 (fun _ v w' => v = .string Rb ∧ wr.grownBy w' none)
      case first =>
        have hS0 : Below wr.heap.size wr wr.drew := (Below.refl _ _).drew
        have hcv1 : (convert 27 9 (.slice (some ⟨wr.heap.size, 0, none⟩) z z)).run Tryz.prog (wr.alloc (.cells Z 5)).drew = .ok (.string Zs) (wr.alloc (.cells Z 5)).drew := hcv _ _ (heap_alloc_new wr _)
        have hcvA : ∀ w' : World, (convert 27 9 (.slice (some ⟨w'.heap.size, 0, none⟩) z z)).run Tryz.prog (w'.alloc (.cells Z 5)) = .ok (.string Zs) (w'.alloc (.cells Z 5)) := fun w' => hcv _ _ (heap_alloc_new w' _)
        have HCV := Lib.hid hcv
        clear hcv
        go_region_held (fun w' => Below wr.heap.size wr w') (first | assumption | (exact Below.trans (by assumption) (by assumption)) | (refine Below.alloc (by assumption) (Below.size (by assumption)) _) | exact (Below.refl _ _).drew) ((go_at_call 26; refine (hbe _).mono ?_; rintro e w4 ⟨rfl, hb4⟩; try (have hcv4 := HCV.out w4 wr.heap.size ((hb4.block wr.heap.size (by simp)).trans (heap_alloc_new wr _))); have hb5 : Below wr.heap.size wr w4 := Below.trans (by assumption) (hb4.mono (Below.size (by assumption)))))
        all_goals
          go_wp2
          go_meet
          case rel =>
            refine ⟨by rw [HR.out.2.2.2.2.2.2.2.1], ?_⟩
            refine grown_of_below ?_
            first | assumption | (exact Below.trans (by assumption) (by assumption)) | (refine Below.alloc (by assumption) (Below.size (by assumption)) _)
      case rest =>
        obtain ⟨rfl, hgc⟩ := hcut
        obtain ⟨rl, hrl⟩ : ∃ rl, rl = restL l ++ padL l.length := ⟨_, rfl⟩
        obtain ⟨M, hM⟩ : ∃ M, M = rl.length / 64 := ⟨_, rfl⟩
        have hRl : Rb.data.toList = rl := by rw [hrl]; exact HR.out.2.2.2.2.2.2.2.2.1
        have hRs : Rb.size = 64 * M := by
          have e1 : Rb.size = rl.length := by rw [← hRl]; rfl
          have e2 := pad_fills l.length
          have e3 : rl.length = l.length % 64 + (padL l.length).length := by rw [hrl, List.length_append, restL_length]
          omega
        have hM72 : M ≤ 2 := by
          have e3 : rl.length = l.length % 64 + (padL l.length).length := by rw [hrl, List.length_append, restL_length]
          have e4 : zerosFor l.length < 64 := by rw [zerosFor]; omega
          rw [padL_length] at e3
          omega
        have hSr : S = headS l := by rw [HS.out, headS, HH.out.2.2.2, ← HH.out.2.1]
        have hsha : sha l = outL (Go.Proofs.YtmhbkilpllgchaaGreatDoor.hs S rl M) := by rw [sha_of, hSr, hM, hrl]
        have hrb : ∀ i, bt Rb i = rl.getD i 0 := fun i => by rw [← hRl]; rfl
        have hRb128 : Rb.size ≤ 128 := by omega
        have HM := Lib.hid (And.intro hrb (And.intro hsha hRl))
        clear hrl hM hRl hSr hsha hrb
        have hGc : Blk wc (L + 1) 63 (scells (Go.Proofs.YtmhbkilpllgchaaGreatDoor.hs S rl 0)) := hGk.grown hgc (by simp)
        have hGlt := hGc.lt
        go_wp2
        go_loopw [7] (fun i wq => ∃ k q : Nat, q = 64 * k ∧ k ≤ M ∧ i = .int .i64 (q : Int) ∧ Blk wq (L + 1) 63 (scells (Go.Proofs.YtmhbkilpllgchaaGreatDoor.hs S rl k)) ∧ wc.grownBy wq (some (L + 1))) (fun i _ => 64 * M - (intOf i).toNat)
        case atStart => exact ⟨0, 0, rfl, by omega, rfl, hGc, World.grownBy.refl _ _⟩
        case round =>
          clear hGc
          obtain ⟨k2, q, hq, hk2, rfl, hGq, hgq⟩ := hrel
          obtain ⟨S2, hS2⟩ : ∃ S2, S2 = Go.Proofs.YtmhbkilpllgchaaGreatDoor.hs S rl k2 := ⟨_, rfl⟩
          rw [← hS2] at hGq
          have HS2 := Lib.hid hS2
          clear hS2
          by_cases h2 : k2 < M
          · have hk3 : q + 64 ≤ Rb.size := by omega
            have hk4 : (q : Int) + 64 ≤ (Rb.size : Int) := by omega
            have hk5 : (q : Int) < (Rb.size : Int) := by omega
            have hw : IntKind.i64.wrap ((q : Int) + 64) = (q : Int) + 64 := by rw [IntKind.wrap_i64]; omega
            have hsl : ∀ w', (Instr.slice 9 (.string Rb) (some (.int .i64 (q : Int))) (some (.int .i64 ((q : Int) + 64))) none).run Tryz.prog w' = .ok (.string (Rb.extract q (q + 64))) w' := fun w' => by
              have := run_slice_string (P := Tryz.prog) w' 9 Rb .i64 .i64 (q : Int) ((q : Int) + 64) Tryz.underlying9 (by omega) (by omega) (by omega)
              rwa [Int.toNat_natCast, show ((q : Int) + 64).toNat = q + 64 by omega] at this
            have hsz : (Rb.extract q (q + 64)).size = 64 := by rw [ByteArray.size_extract]; omega
            obtain ⟨T, hT⟩ : ∃ T, T = Go.Proofs.YtmhbkilpllgchaaGreatDoor.hs S rl (k2 + 1) := ⟨_, rfl⟩
            have hcmp : comp S2 (bt (Rb.extract q (q + 64))) = T := by
              rw [hT, hs_succ, ← HS2.out]
              refine comp_congr (fun j hj => ?_) S2
              rw [bt_extract Rb q 64 j hk3 hj, HM.out.1, hq]
              rfl
            have HQ := Lib.hid (And.intro hq (And.intro hsz hcmp))
            have HT := Lib.hid hT
            have hqM : q + 64 ≤ 64 * M := by omega
            clear hsz hcmp hT hq hRs
            go_wp2
            refine wp_region_drew_tail 6 (by kernel_rfl) (by kernel_rfl) ?_
            simp only [List.take_succ_cons, List.take_zero, List.drop_succ_cons, List.drop_zero]
            refine wpQuiet_ld_mid (d := 51) (L + 1) 0 (scells S2).toList rfl (by rintro _ ⟨nq, rfl⟩; exact range_of_blk (hGq.drewN nq)) Tryz.underlying63 rfl (by rw [size38]; rfl) ?_
            simp only [List.setIfInBounds_toArray, List.set_cons_succ, List.set_cons_zero]
            repeat (go_big_quiet_step (fail))
            refine wpQuiet_nil ?_
            rintro _ ⟨nq, rfl⟩
            clear hsl hw
            go_wp2_with fail
            refine (block_any (Rb.extract q (q + 64)) S2 (wr.drewN nq) HQ.out.2.1).mono ?_
            rintro e w3 ⟨rfl, hb3⟩
            rw [HQ.out.2.2]
            have hG3 : Blk w3 (L + 1) 63 (scells S2) := (hGq.drewN nq).below hb3 hGq.lt
            go_wp2_with (refine wpList_st_row (L + 1) (scells T) rfl rfl 63 _ hG3 (by rw [size38]; rfl) rfl (scells_one _) ?_)
            go_roundw
            case rel => exact ⟨k2 + 1, q + 64, by rw [HQ.out.1]; omega, by omega, by go_num, by rw [← HT.out]; exact hG3.row _, grown_setRow (grown_trans hgq (grown_trans (grown_drewN (World.grownBy.refl _ _) nq) (grown_below hb3 (Nat.le_refl _) _))) _⟩
            case measure => simp [intOf]; omega
          · have hkM : k2 = M := by omega
            have hqq : ¬ ((q : Int) < (Rb.size : Int)) := by omega
            have HK := Lib.hid hkM
            clear hkM hq hRs
            obtain ⟨wd, rfl⟩ : ∃ wd : World, wd = wr := ⟨_, rfl⟩
            have hsz1 := hgw.size
            have hwoL : L < wo.heap.size := hL.lt
            have hLq : Blk wd L 36 z32 := ((hL.grown hgk (by simp)).grown hgc (by simp)).grown hgq (by simp)
            have hbq : Below L w wd := hb.trans ⟨hgq.os.trans (hgc.os.trans hgk.os), hgq.tape.trans (hgc.tape.trans hgk.tape), hgq.output.trans (hgc.output.trans hgk.output), Nat.le_trans hgk.size (Nat.le_trans hgc.size hgq.size), fun j hj => by
              have a1 := hgk.size
              have a2 := hgc.size
              rw [hgq.block j (by omega) (by simp; omega), hgc.block j (by omega) (by simp), hgk.block j (by omega) (by simp; omega)]⟩
            have hM0 : Blk (wd.alloc (.cells z32 36)) wd.heap.size 36 (outP S2 0) := by rw [outP_zero]; exact Blk.new _ _ _
            have hXlt := hGq.lt
            have hXM := hGq.alloc (.cells z32 36)
            have hLM := hLq.alloc (.cells z32 36)
            have hbM := hbq.alloc (by omega) (.cells z32 36)
            have hMs : wd.heap.size < (wd.alloc (.cells z32 36)).heap.size := hM0.lt
            have hLw := hLq.lt
            go_wp2_with (refine wpList_alN (d := 8) z32 zero29 wd.heap.size rfl ?_; simp only [List.setIfInBounds_toArray, List.set_cons_succ, List.set_cons_zero])
            obtain ⟨wm, em⟩ : ∃ wm, wm = wd.alloc (.cells z32 36) := ⟨_, rfl⟩
            rw [← em] at hM0 hXM hLM hbM hMs ⊢
            obtain ⟨X, eX⟩ : ∃ X, X = wd.heap.size := ⟨_, rfl⟩
            rw [← eX] at hM0 hXlt hMs hLw ⊢
            clear em eX
            go_loopw [9] (fun i wr => ∃ k : Nat, k ≤ 32 ∧ i = .int .i64 k ∧ Blk wr X 36 (outP S2 k) ∧ Below X wm wr) (fun i _ => 32 - (intOf i).toNat)
            case atStart => exact ⟨0, by omega, rfl, hM0, Below.refl _ _⟩
            case round =>
              clear hM0
              obtain ⟨k, hk, rfl, hMk, hbk2⟩ := hrel
              by_cases h2 : k < 32
              · have e0 : wr.cell? ⟨L + 1, k / 4, none⟩ = some (W (outAt S2 (k / 4))) := by rw [(hXM.below hbk2 hXlt).cell]; exact scells_at _ _ (by omega)
                have ef := hMk.frozen k
                have e1 : wr.cell? ⟨X, k, none⟩ = some (B 0) := by rw [hMk.cell]; exact outP_at S2 k h2
                go_wp2
                go_roundw
                case rel => exact ⟨k + 1, by omega, by go_num, by rw [byte_out, ← outP_set S2 k h2]; exact hMk.set_ k _, hbk2.setCell (p := ⟨X, k, none⟩) (Nat.le_refl _) _⟩
                case measure => simp [intOf]; omega
              · obtain rfl : k = 32 := by omega
                rw [outP_all] at hMk
                have hLk := hLM.below hbk2 hLw
                go_wp2_with (refine wpList_ld_row (d := 74) X _ rfl 36 hMk Tryz.underlying36 rfl (by rw [size29, bcells_size]; rfl) (wpList_st_row L (bcells (outL S2)) rfl rfl 36 z32 hLk (by rw [size29, bcells_size]; rfl) (by rw [bcells_size]; rfl) (bcells_one _) ?_); simp only [List.setIfInBounds_toArray, List.set_cons_succ, List.set_cons_zero])
                refine bodyPost_ret (results_cell_row rfl _ _ L 36 _ (0, 0) _ rfl (hLk.row _) Tryz.underlying36 rfl (by rw [size29, bcells_size]; rfl)) rfl ⟨by rw [HM.out.2.1, ← HK.out, ← HS2.out], below_setRow (hbM.trans (hbk2.mono (by omega))) (Nat.le_refl _) _⟩
end Go.Proofs.YtmhbkilpllgchaaGreatDoor
