/- The walk of TagMade. -/
import Derived.Test.YtmhbkilpllgchaaTagE
import Derived.Deep.Cut
import Derived.Test.YtmhbkilpllgchaaTagF
namespace Go.Proofs.Ytmhbkilpllgchaa
open Go.RowKit BigFrame
set_option linter.unusedVariables false
set_option linter.unusedSimpArgs false

theorem Strs.take {w : World} {pa : Option Addr} {ss : List ByteArray} (h : Strs w pa ss) (j : Nat) : Strs w pa (ss.take j) := by
  refine ⟨fun e => by rw [h.1 e]; simp, fun a ha k hk => ?_⟩
  rw [List.length_take] at hk
  have := h.2 a ha k (by omega)
  rwa [show (ss.take j).getD k ByteArray.empty = ss.getD k ByteArray.empty by
    have hk' : k < j := by omega
    simp [List.getD, hk']]

theorem sizes_total (m : Nat) : ∀ (ss : List ByteArray), (∀ j, j < ss.length → (ss.getD j ByteArray.empty).size ≤ m) → total ss ≤ ss.length * m := by
  intro ss
  induction ss with
  | nil => intro _; simp [total]
  | cons a ss ih =>
    intro h
    have h0 := h 0 (by simp)
    have h1 := ih (fun j hj => h (j + 1) (by simp; omega))
    have e : total (a :: ss) = a.size + total ss := by simp [total]
    rw [e, List.length_cons, Nat.succ_mul]
    have : a.size ≤ m := h0
    omega


theorem elem23 : Try.prog.underlying 23 = some (.slice (Try.prog.elem 23)) := by kernel_rfl
theorem size_elem23 (w : World) : (sizeOf (Try.prog.elem 23)).run Try.prog w = .ok 1 w := by kernel_rfl
theorem run_upto (pa : Option Addr) (n c h : Nat) (hh : h ≤ c) (w : World) : (Instr.slice 23 (.slice pa n c) none (some (.int .i64 (h : Int))) none).run Try.prog w = .ok (.slice pa h c) w := by
  rw [run_slice_h (P := Try.prog) w 23 pa n c elem23 .i64 (h : Int) (by omega) (by omega)]
  have e1 : (sizeOf (Try.prog.elem 23)).run Try.prog w = .ok 1 w := size_elem23 w
  rw [e1]
  have e2 : (if c = 0 then pa else pa.map (fun x => x.add 0)) = pa := by
    split
    · rfl
    · cases pa with
      | none => rfl
      | some a => simp [Addr.add]
  simp only [Result.andThen, sliced, Int.toNat_natCast, Nat.sub_zero, Nat.zero_mul, e2]

set_option maxRecDepth 100000 in
set_option maxHeartbeats 4000000 in
theorem made_any (t : Int) (pa : Option Addr) (ss : List ByteArray) (c : Nat) (w : World) (ht1 : -9223372036854775808 ≤ t) (ht2 : t ≤ 9223372036854775807) (hn : ss.length * 16 ≤ 140737488351232) (hx : Strs w pa ss) (hz : ∀ j, j < ss.length → (ss.getD j ByteArray.empty).size ≤ 140737488351232) (hc : ss.length ≤ c ∧ c ≤ 9223372036854775807) :
    Calls Try.prog 10 #[.int .i64 t, .slice pa ss.length c] w fun e w' => e = .returned (.bool true) ∧ Below w.heap.size w w' := by
  obtain ⟨k, hk, hk4⟩ : ∃ k : Nat, wrap64 ((IntKind.u64.wrap t).tmod 5) = (k : Int) ∧ k ≤ 4 := by
    rw [IntKind.wrap_u64, Int.tmod_eq_emod_of_nonneg (Int.emod_nonneg _ (by omega))]
    have h1 := Int.emod_nonneg (t % 18446744073709551616) (show (5 : Int) ≠ 0 by omega)
    have h2 := Int.emod_lt_of_pos (t % 18446744073709551616) (show (0 : Int) < 5 by omega)
    refine ⟨(t % 18446744073709551616 % 5).toNat, ?_, by omega⟩
    unfold wrap64
    omega
  have HX := Lib.hid hx
  have HZ := Lib.hid hz
  have HN := Lib.hid hn
  obtain ⟨n, en⟩ : ∃ n, n = ss.length := ⟨_, rfl⟩
  have EN := Lib.hid en
  have hn2 : n ≤ 8796093022208 := by omega
  have hnc : n ≤ c := by rw [en]; exact hc.1
  have hcc : (c : Int) ≤ 9223372036854775807 := by omega
  rw [← en]
  clear en hn hz hx hc
  go_enter Try.func10, Try.ntmps10
  go_wp2_with fail
  refine (awake2_any w).mono ?_
  rintro e w1 ⟨rfl, hb1⟩
  have hbt : B (UInt8.ofNat k) = .int .u8 (k : Int) := by
    show Value.int .u8 _ = _
    rw [UInt8.toNat_ofNat']
    congr 1
    omega
  have hcv1 : (convert 35 9 (.slice (some ⟨w1.heap.size, 0, none⟩) 1 1)).run Try.prog (w1.alloc (.cells #[.int .u8 (k : Int)] 5)) = .ok (.string ⟨#[UInt8.ofNat k]⟩) (w1.alloc (.cells #[.int .u8 (k : Int)] 5)) := by
    have hb : Blk (w1.alloc (.cells #[.int .u8 (k : Int)] 5)) w1.heap.size 5 ([UInt8.ofNat k].map B).toArray := by
      simp only [List.map_cons, List.map_nil, hbt]
      exact Blk.new _ _ _
    exact run_str _ w1.heap.size 1 [UInt8.ofNat k] hb
  have hbo : Below w.heap.size w (w1.alloc (.cells #[.int .u8 (k : Int)] 5)) := hb1.alloc hb1.size _
  have HBT := Lib.hid hbt
  clear hbt hb1
  go_wp2
  obtain ⟨wo, ewo⟩ : ∃ wo, wo = w1.alloc (.cells #[.int .u8 (k : Int)] 5) := ⟨_, rfl⟩
  rw [← ewo] at hbo ⊢
  clear ewo hcv1
  go_loopw [6, 7, 8] (fun s m i wr => ∃ (j mm : Nat) (S : ByteArray), i = .int .i64 (j : Int) ∧ m = .int .i64 (mm : Int) ∧ s = .string S ∧ j ≤ n ∧ j ≤ 30 ∧ mm ≤ 140737488351232 ∧ S.size ≤ 1 + j * 140737488351240 ∧ Hid (S.data.toList = tagL k (ss.take j)) ∧ Hid (∀ i, i < j → (ss.getD i ByteArray.empty).size ≤ mm) ∧ Below w.heap.size w wr) (fun _ _ i _ => (30 - intOf i).toNat)
  case atStart => exact ⟨0, 0, _, rfl, rfl, rfl, by omega, by omega, by omega, by show (1 : Nat) ≤ _; omega, Lib.hid (by simp [tagL]), Lib.hid (fun i hi => by omega), hbo⟩
  case round =>
    clear hbo
    obtain ⟨j, mm, S, rfl, rfl, rfl, hj, hj30, hmm, hS, HS, HM, hbw⟩ := hrel
    have hwr := hbw.size
    by_cases h1 : j < n ∧ j < 30
    · obtain ⟨h1, h2⟩ := h1
      obtain ⟨a, rfl, hbl, hcx⟩ := HX.out.at (j := j) (by rw [← EN.out]; exact h1)
      have hq := HZ.out j (by rw [← EN.out]; exact h1)
      have htl := tagL_take_succ k ss j (by rw [← EN.out]; exact h1)
      obtain ⟨q, eq⟩ : ∃ q, q = ss.getD j ByteArray.empty := ⟨_, rfl⟩
      rw [← eq] at hcx hq htl
      have hcr : ∀ x, (later wr x).cell? (a.add j) = some (.string q) := fun x => ((later_below wr x).cell (Nat.lt_of_lt_of_le hbl hwr)).trans ((hbw.cell hbl).trans hcx)
      obtain ⟨Y4, hY4⟩ : ∃ Y4 : ByteArray, Y4 = ⟨(beL 4 q.size).toArray⟩ := ⟨_, rfl⟩
      have hY4s : Y4.size = 4 := by rw [hY4]; exact be4_size _
      have hY4l : Y4.data.toList = beL 4 q.size := by rw [hY4]
      have hbe : ∀ x, Calls Try.prog 45 #[.int .i64 (q.size : Int), .int .i64 4] (later wr x) fun e w'' => e = .returned (.string Y4) ∧ ∃ k, w'' = later wr k := fun x => by
        rw [hY4]
        exact later_call (be_any q.size 4 _ (by omega) (by omega))
      obtain ⟨S1, hS1⟩ : ∃ S1, S ++ Y4 = S1 := ⟨_, rfl⟩
      obtain ⟨S2, hS2⟩ : ∃ S2, S1 ++ q = S2 := ⟨_, rfl⟩
      have hS2s : S2.size ≤ 1 + (j + 1) * 140737488351240 := by
        rw [← hS2, ← hS1, ByteArray.size_append, ByteArray.size_append, hY4s]; omega
      have hS2l : S2.data.toList = tagL k (ss.take (j + 1)) := by
        rw [← hS2, ← hS1, ByteArray.data_append, ByteArray.data_append, Array.toList_append, Array.toList_append, HS.out, hY4l, htl, partL, List.append_assoc]
      have hA1 : ∀ w', (binOp .add 9 (.string S) (.string Y4)).run Try.prog w' = .ok (.string S1) w' := fun w' => by
        rw [binOp_string_add, run_string_add_sum w' S Y4 (by omega), hS1]
      have hA1' : ∀ w', (Op.stringOp .add S Y4).run Try.prog w' = .ok (.string S1) w' := fun w' => by
        rw [run_string_add_sum w' S Y4 (by omega), hS1]
      have hS1s : S1.size = S.size + 4 := by rw [← hS1, ByteArray.size_append, hY4s]
      have hA2 : ∀ w', (binOp .add 9 (.string S1) (.string q)).run Try.prog w' = .ok (.string S2) w' := fun w' => by
        rw [binOp_string_add, run_string_add_sum w' S1 q (by omega), hS2]
      have hA2' : ∀ w', (Op.stringOp .add S1 q).run Try.prog w' = .ok (.string S2) w' := fun w' => by
        rw [run_string_add_sum w' S1 q (by omega), hS2]
      have HY := Lib.hid (And.intro hY4 (And.intro hY4s (And.intro hS2l eq)))
      clear hY4 hY4s hY4l hS2l eq htl hcx hS1 hS2 hS1s
      have hall : ∀ M, mm ≤ M → q.size ≤ M → ∀ i, i < j + 1 → (ss.getD i ByteArray.empty).size ≤ M := fun M g1 g2 i hi => by
        rcases Nat.lt_or_ge i j with h | h
        · exact Nat.le_trans (HM.out i h) g1
        · obtain rfl : i = j := by omega
          rw [← HY.out.2.2.2]; exact g2
      have HA := Lib.hid hall
      clear hall
      have hmq0 : (q.size : Int) ≤ (mm : Int) ∨ (mm : Int) < (q.size : Int) := by omega
      rcases hmq0 with hmq | hmq
      all_goals
        go_wp2
        refine wp_region_later (by kernel_rfl) (by kernel_rfl) ?_
        repeat (go_big_quiet_step ((go_at_call 45; exact hbe _)))
        refine wpQuiet_nil ?_
        rintro _ ⟨x, rfl⟩
        have hcx := hcr x
        have hbl2 : Below w.heap.size w (later wr x) := hbw.trans ((later_below wr x).mono hwr)
        go_wp2
        go_roundw
        case rel => first
          | exact ⟨j + 1, mm, S2, by go_num, rfl, rfl, by omega, by omega, by omega, hS2s, Lib.hid HY.out.2.2.1, Lib.hid (HA.out mm (Nat.le_refl _) (by omega)), hbl2⟩
          | exact ⟨j + 1, q.size, S2, by go_num, rfl, rfl, by omega, by omega, by omega, hS2s, Lib.hid HY.out.2.2.1, Lib.hid (HA.out q.size (by omega) (Nat.le_refl _)), hbl2⟩
        case measure => simp [intOf]; omega
    · by_cases hbig : 2000 < mm
      · have hbig' : (2000 : Int) < (mm : Int) := by omega
        by_cases h3 : j < n
        all_goals
          go_wp2
          go_ret
          exact ⟨rfl, hbw⟩
      · have hbig' : (mm : Int) ≤ 2000 := by omega
        have hjl : (ss.take j).length = j := by rw [List.length_take]; have := EN.out; omega
        have htot : total (ss.take j) ≤ 65536 := by
          have := sizes_total mm (ss.take j) (fun i hi => by
            rw [hjl] at hi
            have := HM.out i hi
            rwa [show (ss.take j).getD i ByteArray.empty = ss.getD i ByteArray.empty by simp [List.getD, hi]])
          rw [hjl] at this
          have h5 : j * mm ≤ 30 * 2000 := Nat.mul_le_mul hj30 (by omega)
          omega
        obtain ⟨H, eH⟩ : ∃ H, H = sha (tagL k (ss.take j)) := ⟨_, rfl⟩
        have hHl : H.length = 32 := by rw [eH, sha_length]
        have htg : ∀ w', Below w.heap.size w w' → Calls Try.prog 41 #[.int .i64 (k : Int), .slice pa j c] w' fun e w'' => e = .returned (.tuple #[.agg (bcells H), .int .i64 0]) ∧ Below w'.heap.size w' w'' := fun w' hb => by
          have := tsum_ok k pa (ss.take j) c w' hk4 (by rw [hjl]; omega) ((HX.out.below hb).take j) htot
          rw [hjl, tagYes, ← eH] at this
          exact this
        have hSm : S.data.toList = tagL k (ss.take j) := HS.out
        have hss : ∀ w', Calls Try.prog 36 #[.string S] w' fun e w'' => e = .returned (.agg (bcells H)) ∧ Below w'.heap.size w' w'' := fun w' => by
          have hlen := tagL_length k (ss.take j)
          rw [hjl, ← hSm] at hlen
          have hlS : S.data.toList.length = S.size := rfl
          have := ssum_any S w' (by omega)
          rw [shaV, hSm, ← eH] at this
          exact this
        have heq : ∀ w', (binOp .eql 29 (.agg (bcells H)) (.agg (bcells H))).run Try.prog w' = .ok (.bool true) w' := fun w' => by rw [eql_bytes w' H H hHl hHl]; simp
        have heq2 : ∀ w', (Op.equalIn 10000 29 (.agg (bcells H)) (.agg (bcells H))).run Try.prog w' = .ok true w' := fun w' => by rw [run_equal_bytes w' H H hHl hHl]; simp
        have hslc : ∀ h : Nat, h ≤ c → ∀ w', (Instr.slice 23 (.slice pa n c) none (some (.int .i64 (h : Int))) none).run Try.prog w' = .ok (.slice pa h c) w' := fun h hh w' => run_upto pa n c h hh w'
        have C := Lib.hid (And.intro htg (And.intro hss (And.intro hHl (And.intro eH (And.intro hSm hslc)))))
        clear htg hss hHl eH hSm htot hjl hbig hslc
        have h30 : (j = n ∧ (n : Int) ≤ 30) ∨ (j = 30 ∧ (30 : Int) < (n : Int)) := by omega
        have fin : ∀ wf, Below w.heap.size w wf → True := fun _ _ => trivial
        rcases h30 with ⟨rfl, h30⟩ | ⟨rfl, h30⟩
        · have hsl := C.out.2.2.2.2.2 j hnc
          go_wp2_with fail
          refine (C.out.1 _ hbw).mono ?_
          rintro e w4 ⟨rfl, hb4⟩
          have hbw4 := hbw.trans (hb4.mono hwr)
          have hs4 := hbw4.size
          have hD0 : Blk (w4.alloc (.cells z32 29)) w4.heap.size 29 z32 := Blk.new _ _ _
          have hD1 : Blk ((w4.alloc (.cells z32 29)).setRow w4.heap.size (bcells H)) w4.heap.size 29 (bcells H) := hD0.row _
          have hb5 : Below w.heap.size w ((w4.alloc (.cells z32 29)).setRow w4.heap.size (bcells H)) := below_setRow (hbw4.alloc hs4 _) hs4 _
          go_wp2_with (refine wpList_alN (d := 9) z32 zero29 w4.heap.size rfl (wpList_st_row w4.heap.size (bcells H) rfl rfl 29 z32 hD0 (by rw [size29, bcells_size, C.out.2.2.1]) (by rw [bcells_size, C.out.2.2.1]; rfl) (bcells_one _) ?_); simp only [List.setIfInBounds_toArray, List.set_cons_succ, List.set_cons_zero])
          obtain ⟨w5, e5⟩ : ∃ w5, w5 = (w4.alloc (.cells z32 29)).setRow w4.heap.size (bcells H) := ⟨_, rfl⟩
          rw [← e5] at hD1 hb5 ⊢
          obtain ⟨D, eD⟩ : ∃ D, D = w4.heap.size := ⟨_, rfl⟩
          rw [← eD] at hD1 ⊢
          clear e5 eD hD0 hb4 hbw4
          have hDl := hD1.lt
          have hnum : ∀ x, Calls Try.prog 39 #[.int .i64 0] (later w5 x) fun e w'' => e = .returned (.int .i64 0) ∧ ∃ k, w'' = later w5 k := fun x => later_call_same (num_any 0 _)
          have hsm : ∀ x, Calls Try.prog 36 #[.string S] (later w5 x) fun e w'' => e = .returned (.agg (bcells H)) ∧ ∃ k, w'' = later w5 k := fun x => later_call (C.out.2.1 _)
          refine wp_region_later (by kernel_rfl) (by kernel_rfl) ?_
          repeat (first
            | (refine wpQuiet_ld_g (d := 68) D 0 (bcells H).toList rfl rfl (by rintro _ ⟨x, rfl⟩; exact range_of_blk (hD1.below (later_below w5 x) hDl)) Try.underlying29 rfl (by rw [size29, Array.length_toList, bcells_size, C.out.2.2.1]) ?_; simp only [List.setIfInBounds_toArray, List.set_cons_succ, List.set_cons_zero, Array.toArray_toList])
            | (go_big_quiet_step ((first | (go_at_call 39; exact hnum _) | (go_at_call 36; exact hsm _)))))
          refine wpQuiet_nil ?_
          rintro _ ⟨x, rfl⟩
          go_wp2
          go_ret
          exact ⟨rfl, hb5.trans ((later_below w5 x).mono hb5.size)⟩
        · have hsl := C.out.2.2.2.2.2 30 (by omega)
          have hsl2 : ∀ w', (Instr.slice 23 (.slice pa n c) none (some (.int .i64 30)) none).run Try.prog w' = .ok (.slice pa 30 c) w' := hsl
          go_wp2_with fail
          refine (C.out.1 _ hbw).mono ?_
          rintro e w4 ⟨rfl, hb4⟩
          have hbw4 := hbw.trans (hb4.mono hwr)
          have hs4 := hbw4.size
          have hD0 : Blk (w4.alloc (.cells z32 29)) w4.heap.size 29 z32 := Blk.new _ _ _
          have hD1 : Blk ((w4.alloc (.cells z32 29)).setRow w4.heap.size (bcells H)) w4.heap.size 29 (bcells H) := hD0.row _
          have hb5 : Below w.heap.size w ((w4.alloc (.cells z32 29)).setRow w4.heap.size (bcells H)) := below_setRow (hbw4.alloc hs4 _) hs4 _
          go_wp2_with (refine wpList_alN (d := 9) z32 zero29 w4.heap.size rfl (wpList_st_row w4.heap.size (bcells H) rfl rfl 29 z32 hD0 (by rw [size29, bcells_size, C.out.2.2.1]) (by rw [bcells_size, C.out.2.2.1]; rfl) (bcells_one _) ?_); simp only [List.setIfInBounds_toArray, List.set_cons_succ, List.set_cons_zero])
          obtain ⟨w5, e5⟩ : ∃ w5, w5 = (w4.alloc (.cells z32 29)).setRow w4.heap.size (bcells H) := ⟨_, rfl⟩
          rw [← e5] at hD1 hb5 ⊢
          obtain ⟨D, eD⟩ : ∃ D, D = w4.heap.size := ⟨_, rfl⟩
          rw [← eD] at hD1 ⊢
          clear e5 eD hD0 hb4 hbw4
          have hDl := hD1.lt
          have hnum : ∀ x, Calls Try.prog 39 #[.int .i64 0] (later w5 x) fun e w'' => e = .returned (.int .i64 0) ∧ ∃ k, w'' = later w5 k := fun x => later_call_same (num_any 0 _)
          have hsm : ∀ x, Calls Try.prog 36 #[.string S] (later w5 x) fun e w'' => e = .returned (.agg (bcells H)) ∧ ∃ k, w'' = later w5 k := fun x => later_call (C.out.2.1 _)
          refine wp_region_later (by kernel_rfl) (by kernel_rfl) ?_
          repeat (first
            | (refine wpQuiet_ld_g (d := 68) D 0 (bcells H).toList rfl rfl (by rintro _ ⟨x, rfl⟩; exact range_of_blk (hD1.below (later_below w5 x) hDl)) Try.underlying29 rfl (by rw [size29, Array.length_toList, bcells_size, C.out.2.2.1]) ?_; simp only [List.setIfInBounds_toArray, List.set_cons_succ, List.set_cons_zero, Array.toArray_toList])
            | (go_big_quiet_step ((first | (go_at_call 39; exact hnum _) | (go_at_call 36; exact hsm _)))))
          refine wpQuiet_nil ?_
          rintro _ ⟨x, rfl⟩
          go_wp2
          go_ret
          exact ⟨rfl, hb5.trans ((later_below w5 x).mono hb5.size)⟩
end Go.Proofs.Ytmhbkilpllgchaa
