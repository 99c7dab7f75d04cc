/- The walk of ShaKnown. -/
import Derived.Test.YtmhbkilpllgchaaKnA
import Derived.Outline
namespace Go.Proofs.Ytmhbkilpllgchaa
open Go.RowKit BigFrame
set_option linter.unusedVariables false
set_option linter.unusedSimpArgs false

theorem zeros_list (N : Nat) : (⟨(List.replicate N (0 : UInt8)).toArray⟩ : ByteArray).data.toList = List.replicate N 0 := by simp
theorem zeros_size (N : Nat) : (⟨(List.replicate N (0 : UInt8)).toArray⟩ : ByteArray).size = N := by simp [ByteArray.size]

theorem new_stays {w w4 : World} {o : Obj} (h : Below (w.alloc o).heap.size (w.alloc o) w4) : w4.heap[w.heap.size]? = some o := (h.block _ (by simp)).trans (heap_alloc_new w o)
theorem new_stays' {w w4 : World} {o : Obj} (h : Below (w.heap.size + 1) (w.alloc o) w4) : w4.heap[w.heap.size]? = some o := (h.block _ (by omega)).trans (heap_alloc_new w o)

set_option maxRecDepth 100000 in
set_option maxHeartbeats 40000000 in
theorem known_any (w : World) : Calls Try.prog 6 #[] w fun e w' => e = .returned (.bool true) ∧ Below w.heap.size w w' := by
  obtain ⟨i0, hi0, hz0, hz1, hz2⟩ := info_parts info5
  go_enter Try.func6, Try.ntmps6
  go_wp2_with fail
  refine (DigL.new w).mono ?_
  rintro e w2 ⟨Da, eDa, rfl, hA2, hb2, hs2⟩
  have EA := Lib.hid eDa
  have hHA : w.heap.size ≤ Da := by omega
  clear eDa
  go_wp2
  obtain ⟨wo, rfl⟩ : ∃ wo : World, wo = w2 := ⟨_, rfl⟩
  have hbase := hb2.size
  go_loopw [2] (fun i wr => ∃ (j : Nat) (rva : Value), i = .int .i64 (j : Int) ∧ j ≤ 100 ∧ DigL wr Da w.heap.size rva (List.replicate (10 * j) 0) ∧ Below w.heap.size w wr) (fun i _ => (100 - intOf i).toNat)
  case atStart => exact ⟨0, .slice none 0 0, rfl, by omega, hA2, hb2⟩
  case round =>
    clear hA2 hb2 hs2
    obtain ⟨j, rva, rfl, hj, hA, hbw⟩ := hrel
    have hwH := hbw.size
    by_cases h1 : j < 100
    · obtain ⟨X, eX⟩ : ∃ X, X = wr.heap.size := ⟨_, rfl⟩
      have EX := Lib.hid eX
      have eX' := eX.symm
      have EX2 := Lib.hid eX'
      have hXw : w.heap.size ≤ X := by omega
      have hXD : Da < X := by rw [eX]; exact hA.dig.blk.lt
      clear eX eX'
      obtain ⟨Zs, hZs⟩ : ∃ Zs : ByteArray, Zs = ⟨(List.replicate 10 (0 : UInt8)).toArray⟩ := ⟨_, rfl⟩
      have hZsl : Zs.data.toList = List.replicate 10 0 := (congrArg (fun x : ByteArray => x.data.toList) hZs).trans (zeros_list 10)
      have hZss : Zs.size = 10 := (congrArg ByteArray.size hZs).trans (zeros_size 10)
      have HZ := Lib.hid (And.intro hZs (And.intro hZsl hZss))
      clear hZs hZsl hZss
      go_wp2_with (refine wpList_mk X 10 _ rfl (by omega) EX2.out rfl rfl hi0 hz0 hz1 hz2 ?_; intro wy hY0 hby hsy; simp only [List.setIfInBounds_toArray, List.set_cons_succ, List.set_cons_zero]; refine wpList_str X 10 10 (List.replicate 10 0) (by simp) rfl hY0 ?_; simp only [List.setIfInBounds_toArray, List.set_cons_succ, List.set_cons_zero]; rw [← HZ.out.1])
      have hAy : DigL wy Da w.heap.size rva (List.replicate (10 * j) 0) := hA.below (by rw [EX2.out]; exact hby)
      refine (hAy.write Zs (by rw [HZ.out.2.2]; omega) (by simp; omega) (by omega)).mono ?_
      rintro e w6 ⟨rfl, rv6, hA6, hr6, hK6⟩
      have hb6 : Below w.heap.size wy w6 := hK6.below hAy (by omega) (by omega) (by omega)
      rw [HZ.out.2.1, List.replicate_append_replicate, show 10 * j + 10 = 10 * (j + 1) by omega] at hA6
      go_wp2
      go_roundw
      case rel => exact ⟨j + 1, rv6, by go_num, by omega, hA6, hbw.trans ((hby.mono hXw).trans hb6)⟩
      case measure => simp [intOf]; omega
    · obtain rfl : j = 100 := by omega
      obtain ⟨L1, eL1⟩ : ∃ L1, L1 = sha [] := ⟨_, rfl⟩
      obtain ⟨L2, eL2⟩ : ∃ L2, L2 = sha [97, 98, 99] := ⟨_, rfl⟩
      obtain ⟨L3, eL3⟩ : ∃ L3, L3 = sha (⟨#[97, 98, 99, 100, 98, 99, 100, 101, 99, 100, 101, 102, 100, 101, 102, 103, 101, 102, 103, 104, 102, 103, 104, 105, 103, 104, 105, 106, 104, 105, 106, 107, 105, 106, 107, 108, 106, 107, 108, 109, 107, 108, 109, 110, 108, 109, 110, 111, 109, 110, 111, 112, 110, 111, 112, 113]⟩ : ByteArray).data.toList := ⟨_, rfl⟩
      obtain ⟨Z, eZ⟩ : ∃ Z : List UInt8, Z = List.replicate 1000 0 := ⟨_, rfl⟩
      obtain ⟨L4, eL4⟩ : ∃ L4, L4 = sha Z := ⟨_, rfl⟩
      have l1 : L1.length = 32 := by rw [eL1, sha_length]
      have l2 : L2.length = 32 := by rw [eL2, sha_length]
      have l3 : L3.length = 32 := by rw [eL3, sha_length]
      have l4 : L4.length = 32 := by rw [eL4, sha_length]
      have lZ : Z.length = 1000 := by rw [eZ, List.length_replicate]
      obtain ⟨Zs, hZs⟩ : ∃ Zs : ByteArray, Zs = ⟨Z.toArray⟩ := ⟨_, rfl⟩
      obtain ⟨Zc, hZc⟩ : ∃ Zc : Array Value, Zc = (Z.map B).toArray := ⟨_, rfl⟩
      have hZss : Zs.size = 1000 := by rw [hZs]; simp [ByteArray.size, lZ]
      have hZsv : shaV Zs = .agg (bcells L4) := by rw [shaV, eL4, hZs]
      have c1 : ∀ w, Calls Try.prog 36 #[.string ⟨#[]⟩] w fun e w' => e = .returned (.agg (bcells L1)) ∧ Below w.heap.size w w' := fun w => by rw [eL1]; exact ssum_any ⟨#[]⟩ w (by decide)
      have c2 : ∀ w, Calls Try.prog 36 #[.string ⟨#[97, 98, 99]⟩] w fun e w' => e = .returned (.agg (bcells L2)) ∧ Below w.heap.size w w' := fun w => by rw [eL2]; exact ssum_any ⟨#[97, 98, 99]⟩ w (by decide)
      have c3 : ∀ w, Calls Try.prog 36 #[.string ⟨#[97, 98, 99, 100, 98, 99, 100, 101, 99, 100, 101, 102, 100, 101, 102, 103, 101, 102, 103, 104, 102, 103, 104, 105, 103, 104, 105, 106, 104, 105, 106, 107, 105, 106, 107, 108, 106, 107, 108, 109, 107, 108, 109, 110, 108, 109, 110, 111, 109, 110, 111, 112, 110, 111, 112, 113]⟩] w fun e w' => e = .returned (.agg (bcells L3)) ∧ Below w.heap.size w w' := fun w => by rw [eL3]; exact ssum_any ⟨#[97, 98, 99, 100, 98, 99, 100, 101, 99, 100, 101, 102, 100, 101, 102, 103, 101, 102, 103, 104, 102, 103, 104, 105, 103, 104, 105, 106, 104, 105, 106, 107, 105, 106, 107, 108, 106, 107, 108, 109, 107, 108, 109, 110, 108, 109, 110, 111, 109, 110, 111, 112, 110, 111, 112, 113]⟩ w (by decide)
      have c4 : ∀ w, Calls Try.prog 36 #[.string Zs] w fun e w' => e = .returned (.agg (bcells L4)) ∧ Below w.heap.size w w' := fun w => by rw [← hZsv]; exact ssum_any Zs w (by rw [hZss]; omega)
      have d1 : ∀ w, Calls Try.prog 38 #[.agg #[.int .u32 3820012610, .int .u32 2566659092, .int .u32 2600203464, .int .u32 2574235940, .int .u32 665731556, .int .u32 1687917388, .int .u32 2761267483, .int .u32 2018687061]] w fun e w' => e = .returned (.agg (bcells L1)) ∧ Below w.heap.size w w' := fun w => by rw [← kn1_cells, eL1]; exact words_of kn1 _ kn1_out w
      have d2 : ∀ w, Calls Try.prog 38 #[.agg #[.int .u32 3128432319, .int .u32 2399260650, .int .u32 1094795486, .int .u32 1571693091, .int .u32 2953011619, .int .u32 2518121116, .int .u32 3021012833, .int .u32 4060091821]] w fun e w' => e = .returned (.agg (bcells L2)) ∧ Below w.heap.size w w' := fun w => by rw [← kn2_cells, eL2]; exact words_of kn2 _ kn2_out w
      have d3 : ∀ w, Calls Try.prog 38 #[.agg #[.int .u32 613247585, .int .u32 3523623096, .int .u32 3854575251, .int .u32 205414457, .int .u32 2738676825, .int .u32 1694441831, .int .u32 4142722516, .int .u32 433784513]] w fun e w' => e = .returned (.agg (bcells L3)) ∧ Below w.heap.size w w' := fun w => by rw [← kn3_cells, eL3]; exact words_of kn3 _ kn3_out w
      have hA' : DigL wr Da w.heap.size rva Z := by rw [eZ]; exact hA
      have s1 : ∀ w', Below wr.heap.size wr w' → Calls Try.prog 34 #[.pointer (some ⟨Da, 0, none⟩)] w' fun e w'' => e = .returned (.agg (bcells L4)) ∧ Below w'.heap.size w' w'' := fun w' hb => by rw [eL4]; exact (hA'.below hb).sum (by rw [lZ]; omega)
      have n1 : ∀ w', Below wr.heap.size wr w' → Calls Try.prog 33 #[.pointer (some ⟨Da, 0, none⟩)] w' fun e w'' => e = .returned (.int .i64 1000) ∧ w'' = w' := fun w' hb => by
        have := (hA'.below hb).len
        rw [lZ] at this
        exact this
      have q1 : ∀ w', (binOp .eql 29 (.agg (bcells L1)) (.agg (bcells L1))).run Try.prog w' = .ok (.bool true) w' := fun w' => by rw [eql_bytes w' L1 L1 l1 l1]; simp
      have q2 : ∀ w', (binOp .eql 29 (.agg (bcells L2)) (.agg (bcells L2))).run Try.prog w' = .ok (.bool true) w' := fun w' => by rw [eql_bytes w' L2 L2 l2 l2]; simp
      have q3 : ∀ w', (binOp .eql 29 (.agg (bcells L3)) (.agg (bcells L3))).run Try.prog w' = .ok (.bool true) w' := fun w' => by rw [eql_bytes w' L3 L3 l3 l3]; simp
      have q4 : ∀ w', (binOp .eql 29 (.agg (bcells L4)) (.agg (bcells L4))).run Try.prog w' = .ok (.bool true) w' := fun w' => by rw [eql_bytes w' L4 L4 l4 l4]; simp
      have r1 : ∀ w', (Op.equalIn 10000 29 (.agg (bcells L1)) (.agg (bcells L1))).run Try.prog w' = .ok true w' := fun w' => by rw [run_equal_bytes w' L1 L1 l1 l1]; simp
      have r2 : ∀ w', (Op.equalIn 10000 29 (.agg (bcells L2)) (.agg (bcells L2))).run Try.prog w' = .ok true w' := fun w' => by rw [run_equal_bytes w' L2 L2 l2 l2]; simp
      have r3 : ∀ w', (Op.equalIn 10000 29 (.agg (bcells L3)) (.agg (bcells L3))).run Try.prog w' = .ok true w' := fun w' => by rw [run_equal_bytes w' L3 L3 l3 l3]; simp
      have r4 : ∀ w', (Op.equalIn 10000 29 (.agg (bcells L4)) (.agg (bcells L4))).run Try.prog w' = .ok true w' := fun w' => by rw [run_equal_bytes w' L4 L4 l4 l4]; simp
      have hmk : ∀ w' : World, (Instr.makeSlice 35 (.int .i64 1000) (.int .i64 1000)).run Try.prog w' = .ok (.slice (some ⟨w'.heap.size, 0, none⟩) 1000 1000) (w'.alloc (.cells Zc 5)) := fun w' => by
        rw [hZc, eZ]
        exact run_mk w' 1000 (by omega) hi0 hz0 hz1 hz2
      have hcv : ∀ (w' : World) (g : Nat), w'.heap[g]? = some (.cells Zc 5 (0, 0)) → (convert 35 9 (.slice (some ⟨g, 0, none⟩) 1000 1000)).run Try.prog w' = .ok (.string Zs) w' := fun w' g hg => by
        have hb : Blk w' g 5 (Z.map B).toArray := by rw [← hZc]; exact hg
        have := run_str w' g 1000 Z hb
        rw [lZ] at this
        rw [hZs]
        exact this
      have hcvA : ∀ w' : World, (convert 35 9 (.slice (some ⟨w'.heap.size, 0, none⟩) 1000 1000)).run Try.prog (w'.alloc (.cells Zc 5)) = .ok (.string Zs) (w'.alloc (.cells Zc 5)) := fun w' => hcv _ _ (heap_alloc_new w' _)
      have HCV := Lib.hid hcv
      have HE := Lib.hid (And.intro eL1 (And.intro eL2 (And.intro eL3 (And.intro eL4 (And.intro eZ (And.intro hZs (And.intro hZc (And.intro hZss hZsv))))))))
      have HL := Lib.hid (And.intro l1 (And.intro l2 (And.intro l3 (And.intro l4 lZ))))
      have C := Lib.hid (And.intro c1 (And.intro c2 (And.intro c3 (And.intro c4 (And.intro d1 (And.intro d2 (And.intro d3 (And.intro s1 n1))))))))
      have hbr : Below wr.heap.size wr wr.drew := (Below.refl _ _).drew
      clear hcv eL1 eL2 eL3 eL4 eZ hZs hZc hZss hZsv l1 l2 l3 l4 lZ hA hA' c1 c2 c3 c4 d1 d2 d3 s1 n1 hbase
      go_wp2
      go_region_held (fun w' => Below wr.heap.size wr w') (first | assumption | (exact Below.trans (by assumption) (by assumption)) | (refine Below.alloc (by assumption) (Below.size (by assumption)) _) | exact (Below.refl _ _).drew) ((first
        | (go_at_call 36; (with_reducible first | refine (C.out.1 _).mono ?_ | refine (C.out.2.1 _).mono ?_ | refine (C.out.2.2.1 _).mono ?_ | refine (C.out.2.2.2.1 _).mono ?_); rintro e w4 ⟨rfl, hb4⟩; have hb5 : Below wr.heap.size wr w4 := Below.trans (by assumption) (hb4.mono (Below.size (by assumption))))
        | (go_at_call 38; (with_reducible first | refine (C.out.2.2.2.2.1 _).mono ?_ | refine (C.out.2.2.2.2.2.1 _).mono ?_ | refine (C.out.2.2.2.2.2.2.1 _).mono ?_); rintro e w4 ⟨rfl, hb4⟩; have hb5 : Below wr.heap.size wr w4 := Below.trans (by assumption) (hb4.mono (Below.size (by assumption))))
        | (go_at_call 34; refine (C.out.2.2.2.2.2.2.2.1 _ (by assumption)).mono ?_; rintro e w4 ⟨rfl, hb4⟩; (first | have hcv4 := HCV.out w4 _ (new_stays hb4) | have hcv4 := HCV.out w4 _ (new_stays' hb4) | skip); have hb5 : Below wr.heap.size wr w4 := Below.trans (by assumption) (hb4.mono (Below.size (by assumption))))
        | (go_at_call 33; refine (C.out.2.2.2.2.2.2.2.2 _ (by assumption)).mono ?_; rintro e w4 ⟨rfl, rfl⟩)
        | (go_at_call 39; refine (num_any 0 _).mono ?_; rintro e w4 ⟨rfl, rfl⟩)))
      all_goals
        go_wp2
        go_ret
        exact ⟨rfl, hbw.trans (Below.mono (by assumption) hwH)⟩
end Go.Proofs.Ytmhbkilpllgchaa
