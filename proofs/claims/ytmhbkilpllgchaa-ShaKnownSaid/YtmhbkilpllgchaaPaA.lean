/- The walk of ShaParts. -/
import Derived.Test.YtmhbkilpllgchaaTwA
import Derived.Deep.Cut
namespace Go.Proofs.Ytmhbkilpllgchaa
open Go.RowKit BigFrame
set_option linter.unusedVariables false
set_option linter.unusedSimpArgs false

theorem and_63 (x : Int) : 0 ≤ bits .and .i64 x 63 ∧ bits .and .i64 x 63 ≤ 63 := by
  have h : bits .and .i64 x 63 = IntKind.i64.wrap ((BitVec.ofInt 64 x &&& BitVec.ofInt 64 63).toNat : Int) := rfl
  have h2 : (BitVec.ofInt 64 x &&& BitVec.ofInt 64 63).toNat ≤ 63 := by
    rw [BitVec.toNat_and]
    exact Nat.le_trans Nat.and_le_right (by decide)
  rw [h, IntKind.wrap_i64]
  omega

set_option maxRecDepth 100000 in
set_option maxHeartbeats 2000000 in
theorem parts_any (s : ByteArray) (pa : Option Addr) (n c : Nat) (w : World) (hs : s.size ≤ 140737488351232) (hn : n ≤ 9223372036854775807) (hpa : pa = none → n = 0) (hx : ∀ a, pa = some a → ∀ j, j < n → (a.add j).block < w.heap.size ∧ ∃ x : Int, w.cell? (a.add j) = some (.int .i64 x)) :
    Calls Try.prog 5 #[.string s, .slice pa n c] w fun e w' => e = .returned (.bool true) ∧ Below w.heap.size w w' := by
  go_enter Try.func5, Try.ntmps5
  go_wp2_with fail
  refine (awake1_any w).mono ?_
  rintro e w1 ⟨rfl, hb1⟩
  go_wp2_with fail
  refine (DigL.new w1).mono ?_
  rintro e w2 ⟨Da, eDa, rfl, hA2, hb2, hs2⟩
  have EA := Lib.hid eDa
  have hHA : w.heap.size ≤ Da := by rw [eDa]; exact hb1.size
  have hbw2 : Below w.heap.size w w2 := hb1.trans (hb2.mono hb1.size)
  have hbs2 := hb1.size
  clear eDa
  go_wp2_with fail
  refine (DigL.new w2).mono ?_
  rintro e w3 ⟨Db, eDb, rfl, hB3, hb3, hs3⟩
  have EB := Lib.hid eDb
  have hAB : Da < Db := by omega
  have hbw3 : Below w.heap.size w w3 := hbw2.trans (hb3.mono hbw2.size)
  have hA3 := hA2.below hb3
  have hbs3 := hbw2.size
  clear eDb
  go_wp2_with fail
  have hap0 : ∀ g, (Value.slice none 0 0).ownBlock = some g → (Value.slice none 0 0).ownBlock ≠ some g := fun g e => by cases e
  have hbs4 := hb2.size
  have hbs5 := hb3.size
  have hw1 := hb1.size
  have hw2 := hbw2.size
  have hbase1 : w1.heap.size ≤ w3.heap.size := by omega
  have hbase2 : w2.heap.size ≤ w3.heap.size := by omega
  obtain ⟨wo, rfl⟩ : ∃ wo : World, wo = w3 := ⟨_, rfl⟩
  have hlT : s.data.toList.length = s.size := rfl
  have HlT := Lib.hid hlT
  clear hlT hA2 hbw2 hb1 hb2 hb3 hs2 hs3 hbs2 hbs3 hbs4 hbs5
  go_loopw [7, 8] (fun v i wr => ∃ (q j : Nat) (rva rvb : Value), v = .int .i64 (q : Int) ∧ i = .int .i64 (j : Int) ∧ q ≤ s.size ∧ j ≤ 60 ∧ DigL wr Da w1.heap.size rva (s.data.toList.take q) ∧ DigL wr Db w2.heap.size rvb (List.replicate j 120) ∧ (∀ g, rva.ownBlock = some g → rvb.ownBlock ≠ some g) ∧ Below w.heap.size w wr ∧ wo.heap.size ≤ wr.heap.size) (fun _ i _ => (60 - intOf i).toNat)
  case atStart => exact ⟨0, 0, .slice none 0 0, .slice none 0 0, rfl, rfl, by omega, by omega, hA3, hB3, hap0, hbw3, Nat.le_refl _⟩
  case round =>
    clear hA3 hB3 hbw3
    obtain ⟨q, j, rva, rvb, rfl, rfl, hq, hj, hA, hB, hap, hbw, hsw⟩ := hrel
    by_cases h1 : j < n ∧ j < 60
    · obtain ⟨h1, h2⟩ := h1
      obtain ⟨a, rfl⟩ : ∃ a, pa = some a := by
        cases pa with
        | none => have := hpa rfl; omega
        | some a => exact ⟨a, rfl⟩
      obtain ⟨hbl, x, hcx⟩ := hx a rfl j h1
      have hcx2 : wr.cell? (a.add j) = some (.int .i64 x) := (hbw.cell hbl).trans hcx
      obtain ⟨y, hy⟩ : ∃ y, y = bits .and .i64 x 63 := ⟨_, rfl⟩
      have hy0 : 0 ≤ y := by rw [hy]; exact (and_63 x).1
      have hy1 : y ≤ 63 := by rw [hy]; exact (and_63 x).2
      have hye : bits .and .i64 x 63 = y := hy.symm
      have hq2 : (q : Int) ≤ (s.size : Int) := by omega
      clear hy
      go_upto_region 8 with fail
      go_cut [9, 60, 61, 62, 63, 64, 65, 66, 67, 68, 69, 70, 71, 72, 73, 74, 75, 76] from 14 (fun v b60 b61 b62 b63 b64 b65 b66 b67 b68 b69 b70 b71 b72 b73 b74 b75 b76 w' => ((∃ kk : Nat, v = .int .i64 (kk : Int) ∧ q + kk ≤ s.size) ∧ w' = wr) ∧ b60 = undef ∧ b61 = undef ∧ b62 = undef ∧ b63 = undef ∧ b64 = undef ∧ b65 = undef ∧ b66 = undef ∧ b67 = undef ∧ b68 = undef ∧ b69 = undef ∧ b70 = undef ∧ b71 = undef ∧ b72 = undef ∧ b73 = undef ∧ b74 = undef ∧ b75 = undef ∧ b76 = undef)
      case first =>
        go_wp2
        all_goals
          go_meet
          case rel => first | exact ⟨⟨⟨s.size - q, by congr 1; omega, by omega⟩, rfl⟩, rfl, rfl, rfl, rfl, rfl, rfl, rfl, rfl, rfl, rfl, rfl, rfl, rfl, rfl, rfl, rfl, rfl⟩ | exact ⟨⟨⟨y.toNat, by congr 1; omega, by omega⟩, rfl⟩, rfl, rfl, rfl, rfl, rfl, rfl, rfl, rfl, rfl, rfl, rfl, rfl, rfl, rfl, rfl, rfl, rfl⟩
      case rest =>
        obtain ⟨⟨⟨kk, rfl, hkk⟩, rfl⟩, rfl, rfl, rfl, rfl, rfl, rfl, rfl, rfl, rfl, rfl, rfl, rfl, rfl, rfl, rfl, rfl, rfl⟩ := hcut
        have hsl : ∀ w', (Instr.slice 9 (.string s) (some (.int .i64 (q : Int))) (some (.int .i64 ((q : Int) + (kk : Int)))) none).run Try.prog w' = .ok (.string (s.extract q (q + kk))) w' := fun w' => by
          have := run_slice_string (P := Try.prog) w' 9 s .i64 .i64 (q : Int) ((q : Int) + (kk : Int)) Try.underlying9 (by omega) (by omega) (by omega)
          rwa [Int.toNat_natCast, show ((q : Int) + (kk : Int)).toNat = q + kk by omega] at this
        have hsl2 : ∀ w', (Instr.slice 9 (.string s) none (some (.int .i64 ((q : Int) + (kk : Int)))) none).run Try.prog w' = .ok (.string (s.extract 0 (q + kk))) w' := fun w' => by
          rw [run_slice_string_to_if w' 9 s .i64 ((q : Int) + (kk : Int)) Try.underlying9, if_pos (by omega), show ((q : Int) + (kk : Int)).toNat = q + kk by omega]
        obtain ⟨sa, hsa⟩ : ∃ sa, sa = s.extract q (q + kk) := ⟨_, rfl⟩
        obtain ⟨sb, hsb⟩ : ∃ sb, sb = s.extract 0 (q + kk) := ⟨_, rfl⟩
        rw [← hsa] at hsl
        rw [← hsb] at hsl2
        have hsal : sa.data.toList = (s.data.toList.drop q).take kk := by
          rw [hsa, ByteArray.data_extract, Array.toList_extract, List.extract_eq_take_drop, Nat.add_sub_cancel_left]
        have hsbl : sb.data.toList = s.data.toList.take (q + kk) := by
          rw [hsb, ByteArray.data_extract, Array.toList_extract, List.extract_eq_take_drop]
          simp
        have hsas : sa.size ≤ s.size := by rw [hsa, ByteArray.size_extract]; omega
        have hsbs : sb.size ≤ s.size := by rw [hsb, ByteArray.size_extract]; omega
        have hta : s.data.toList.take q ++ sa.data.toList = s.data.toList.take (q + kk) := by rw [hsal, List.take_add]
        have hlq : (s.data.toList.take q).length ≤ s.size := by rw [List.length_take, HlT.out]; omega
        have hlq2 : (s.data.toList.take (q + kk)).length = q + kk := by rw [List.length_take, HlT.out]; omega
        have HS := Lib.hid (And.intro hsa (And.intro hsb (And.intro hsal (And.intro hsbl hta))))
        have HL2 := Lib.hid hlq2
        clear hsa hsb hsal hsbl hta hlq2
        go_wp2_with fail
        have hwH := hbw.size
        refine (hA.write sa (by omega) (by omega) (by omega)).mono ?_
        rintro e w6 ⟨rfl, rv6, hA6, hr6, hK6⟩
        rw [HS.out.2.2.2.2] at hA6
        have hB6 := hB.other hA (by omega) (fun g e1 e2 => hap g e2 e1) hK6
        have hap6 := hB.apart hr6
        have hb6 : Below w.heap.size _ w6 := hK6.below hA (by omega) (by omega) (by omega)
        have hs6 := hK6.size
        go_wp2_with fail
        refine (hB6.write _ (by decide) (by simp; omega) (by omega)).mono ?_
        rintro e w7 ⟨rfl, rv7, hB7, hr7, hK7⟩
        have hA7 := hA6.other hB6 (by omega) (fun g e1 e2 => hap6 g e2 e1) hK7
        have hap7 := hA6.apart hr7
        have hb7 : Below w.heap.size w6 w7 := hK7.below hB6 (by omega) (by omega) (by omega)
        have hs7 := hK7.size
        have hbw7 := hbw.trans (hb6.trans hb7)
        have hB8 : DigL w7 Db w2.heap.size rv7 (List.replicate (j + 1) 120) := by
          have := hB7
          rwa [show (⟨#[120]⟩ : ByteArray).data.toList = [120] from rfl, ← List.replicate_succ'] at this
        obtain ⟨Ls, hLs⟩ : ∃ Ls, Ls = sha (s.data.toList.take (q + kk)) := ⟨_, rfl⟩
        have hLsl : Ls.length = 32 := by rw [hLs, sha_length]
        have hsA : ∀ x : World, Calls Try.prog 34 #[.pointer (some ⟨Da, 0, none⟩)] (later w7 x) fun e w'' => e = .returned (.agg (bcells Ls)) ∧ ∃ k, w'' = later w7 k := fun x => by
          rw [hLs]
          exact later_call ((hA7.later x).sum (by rw [HL2.out]; omega))
        have hsS : ∀ x : World, Calls Try.prog 36 #[.string sb] (later w7 x) fun e w'' => e = .returned (.agg (bcells Ls)) ∧ ∃ k, w'' = later w7 k := fun x => by
          have : shaV sb = .agg (bcells Ls) := by rw [hLs, shaV, HS.out.2.2.2.1]
          rw [← this]
          exact later_call (ssum_any sb _ (by omega))
        have hlA : ∀ x : World, Calls Try.prog 33 #[.pointer (some ⟨Da, 0, none⟩)] (later w7 x) fun e w'' => e = .returned (.int .i64 ((q : Int) + (kk : Int))) ∧ ∃ k, w'' = later w7 k := fun x => by
          have := (hA7.later x).len
          rw [HL2.out, Int.natCast_add] at this
          exact later_call_same this
        have hneq : ∀ w', (binOp .neq 29 (.agg (bcells Ls)) (.agg (bcells Ls))).run Try.prog w' = .ok (.bool false) w' := fun w' => by rw [neq_bytes w' Ls Ls hLsl hLsl]; simp
        have hneq2 : ∀ w', (Op.equalIn 10000 29 (.agg (bcells Ls)) (.agg (bcells Ls))).run Try.prog w' = .ok true w' := fun w' => by rw [run_equal_bytes w' Ls Ls hLsl hLsl]; simp
        have HN := Lib.hid hLs
        clear hLs hB6 hB7 hA6 hK6 hK7 hr6 hr7 hA hB hb6 hb7
        go_wp2
        refine wp_region_later (by kernel_rfl) (by kernel_rfl) ?_
        repeat (go_big_quiet_step ((first | (go_at_call 34; exact hsA _) | (go_at_call 36; exact hsS _) | (go_at_call 33; exact hlA _))))
        refine wpQuiet_nil ?_
        rintro _ ⟨x, rfl⟩
        have hbl := later_below w7 x
        have hbls := hbl.size
        go_wp2
        go_roundw
        case rel => exact ⟨q + kk, j + 1, rv6, rv7, by go_num, by go_num, hkk, by omega, hA7.later x, hB8.later x, hap7, hbw7.trans (hbl.mono hbw7.size), by omega⟩
        case measure => simp [intOf]; omega
    · have hex : ¬ ((j : Int) < (n : Int) ∧ (j : Int) < 60) := by omega
      have hcond : ((j : Int) < (n : Int)) → ¬ ((j : Int) < 60) := by omega
      have hsl : ∀ w', (Instr.slice 9 (.string s) (some (.int .i64 (q : Int))) none none).run Try.prog w' = .ok (.string (s.extract q s.size)) w' := fun w' => by
        rw [run_slice_string_from_if w' 9 s .i64 (q : Int) Try.underlying9, if_pos (by omega)]
        rfl
      obtain ⟨sr, hsr⟩ : ∃ sr, sr = s.extract q s.size := ⟨_, rfl⟩
      rw [← hsr] at hsl
      have hsrl : sr.data.toList = s.data.toList.drop q := by
        rw [hsr, ByteArray.data_extract, Array.toList_extract, List.extract_eq_take_drop, List.take_of_length_le (by rw [List.length_drop]; exact Nat.le_refl _)]
      have hsrs : sr.size ≤ s.size := by rw [hsr, ByteArray.size_extract]; omega
      have hlq : (s.data.toList.take q).length ≤ s.size := by rw [List.length_take, HlT.out]; omega
      have HSR := Lib.hid (And.intro hsr hsrl)
      clear hsr hsrl
      have fin : ∀ w6 rv6, Keeps wr w6 Da rva.ownBlock → DigL w6 Da w1.heap.size rv6 (s.data.toList.take q ++ sr.data.toList) → DigL w6 Da w1.heap.size rv6 s.data.toList ∧ Below w.heap.size w w6 := fun w6 rv6 hK h => by
        refine ⟨by rwa [HSR.out.2, List.take_append_drop] at h, hbw.trans (hK.below hA (by omega) (by omega) hbw.size)⟩
      obtain ⟨Ls, hLs⟩ : ∃ Ls, Ls = sha s.data.toList := ⟨_, rfl⟩
      have hLsl : Ls.length = 32 := by rw [hLs, sha_length]
      have hss : shaV s = .agg (bcells Ls) := by rw [hLs, shaV]
      have heq : ∀ w', (binOp .eql 29 (.agg (bcells Ls)) (.agg (bcells Ls))).run Try.prog w' = .ok (.bool true) w' := fun w' => by rw [eql_bytes w' Ls Ls hLsl hLsl]; simp
      have heq2 : ∀ w', (Op.equalIn 10000 29 (.agg (bcells Ls)) (.agg (bcells Ls))).run Try.prog w' = .ok true w' := fun w' => by rw [run_equal_bytes w' Ls Ls hLsl hLsl]; simp
      have HN := Lib.hid (And.intro hLs hss)
      have hwH := hbw.size
      clear hLs hss hB
      by_cases h3 : (j : Int) < (n : Int)
      all_goals
        go_wp2_with fail
        refine (hA.write sr (by omega) (by omega) (by omega)).mono ?_
        rintro e w6 ⟨rfl, rv6, hA6, hr6, hK6⟩
        obtain ⟨hA7, hbw6⟩ := fin w6 rv6 hK6 hA6
        clear hA6 hK6 hr6
        go_wp2_with fail
        refine (hA7.sum (by rw [HlT.out]; omega)).mono ?_
        rintro e w7 ⟨rfl, hb7⟩
        rw [← HN.out.1]
        have hA8 := hA7.below hb7
        go_wp2_with fail
        refine (ssum_any s w7 hs).mono ?_
        rintro e w8 ⟨rfl, hb8⟩
        rw [HN.out.2]
        have hA9 := hA8.below hb8
        go_wp2_with fail
        refine hA9.len.mono ?_
        rintro e _ ⟨rfl, rfl⟩
        rw [HlT.out]
        go_wp2
        go_ret
        exact ⟨rfl, hbw6.trans ((hb7.mono hbw6.size).trans (hb8.mono (by have := hbw6.size; have := hb7.size; omega)))⟩
end Go.Proofs.Ytmhbkilpllgchaa
