/- The walk of ShaTwins. -/
import Derived.Test.YtmhbkilpllgchaaShaL
namespace Go.Proofs.Ytmhbkilpllgchaa
open Go.RowKit BigFrame
set_option linter.unusedVariables false
set_option linter.unusedSimpArgs false

theorem DigL.other {w w' : World} {Da Db base base' : Nat} {rva rvb : Value} {l m : List UInt8} (ha : DigL w Da base rva l) (hb : DigL w Db base' rvb m) (hne : Da ≠ Db) (hap : ∀ g, rva.ownBlock = some g → rvb.ownBlock ≠ some g)
    (hK : Keeps w w' Db rvb.ownBlock) : DigL w' Da base rva l := by
  have h1 := row_blk_ne hb.dig.row ha.dig.blk (by decide)
  have h2 := row_blk_ne ha.dig.row hb.dig.blk (by decide)
  refine ⟨⟨(hK.block _ ha.dig.blk.lt hne (fun e => h1 e.symm)).trans ha.dig.blk, ?_, ha.dig.nil⟩⟩
  rcases ha.dig.row.2 with hn | ⟨g, cap, cur, hv, hbg, hh, rest⟩
  · exact ⟨ha.dig.row.1, .inl hn⟩
  · have hg : rva.ownBlock = some g := by rw [hv]; rfl
    have hlt : g < w.heap.size := by
      rcases Nat.lt_or_ge g w.heap.size with h | h
      · exact h
      · rw [Array.getElem?_eq_none h] at hh; cases hh
    exact ⟨ha.dig.row.1, .inr ⟨g, cap, cur, hv, hbg, (hK.block g hlt (fun e => h2 (by rw [hg, e])) (fun e => hap g hg e.symm)).trans hh, rest⟩⟩
theorem DigL.apart {w : World} {Da base : Nat} {rva rvb : Value} {l : List UInt8} (ha : DigL w Da base rva l) (h : rvb.ownBlock = none ∨ ∃ g, rvb.ownBlock = some g ∧ w.heap.size ≤ g) : ∀ g, rva.ownBlock = some g → rvb.ownBlock ≠ some g := by
  intro g hg e
  have hl := (ha.dig.row.lt g hg).2
  rcases h with h | ⟨g', h, hle⟩
  · rw [h] at e; cases e
  · rw [h] at e; injection e with e; omega
theorem Keeps.below {w w' : World} {D H base : Nat} {rv : Value} {l : List UInt8} (hK : Keeps w w' D rv.ownBlock) (hd : DigL w D base rv l) (h1 : H ≤ D) (h2 : H ≤ base) (h3 : H ≤ w.heap.size) : Below H w w' :=
  ⟨hK.os, hK.tape, hK.output, hK.size, fun i hi => hK.block i (by omega) (by omega) (fun e => by have := (hd.dig.row.lt i e.symm).1; omega)⟩

set_option maxRecDepth 100000 in
set_option maxHeartbeats 2000000 in
theorem twins_any (s : ByteArray) (at_ times : Int) (w : World) (hs : s.size ≤ 140737488351232) (ha1 : -9223372036854775808 ≤ at_) (ha2 : at_ ≤ 9223372036854775807) (ht1 : -9223372036854775808 ≤ times) (ht2 : times ≤ 9223372036854775807) :
    Calls Try.prog 7 #[.string s, .int .i64 at_, .int .i64 times] w fun e w' => e = .returned (.bool true) ∧ Below w.heap.size w w' := by
  go_enter Try.func7, Try.ntmps7
  go_wp2_with fail
  refine (awake1_any w).mono ?_
  rintro e w1 ⟨rfl, hb1⟩
  go_wp2_with fail
  refine (DigL.new w1).mono ?_
  rintro e w2 ⟨Da, eDa, rfl, hA2, hb2, hs2⟩
  have EA := Lib.hid eDa
  have hHA : w.heap.size ≤ Da := by rw [eDa]; exact hb1.size
  have hbw2 : Below w.heap.size w w2 := hb1.trans (hb2.mono hb1.size)
  have hbs2 := hb1.size
  clear eDa
  go_wp2_with fail
  refine (DigL.new w2).mono ?_
  rintro e w3 ⟨Db, eDb, rfl, hB3, hb3, hs3⟩
  have EB := Lib.hid eDb
  have hAB : Da < Db := by omega
  have hbw3 : Below w.heap.size w w3 := hbw2.trans (hb3.mono hbw2.size)
  have hA3 := hA2.below hb3
  have hbs3 := hbw2.size
  clear eDb
  go_wp2_with fail
  obtain ⟨k, hk, hks⟩ : ∃ k : Nat, wrap64 ((IntKind.u64.wrap at_).tmod ((s.size : Int) + 1)) = (k : Int) ∧ k ≤ s.size := by
    rw [IntKind.wrap_u64, Int.tmod_eq_emod_of_nonneg (Int.emod_nonneg _ (by omega))]
    have h1 := Int.emod_nonneg (at_ % 18446744073709551616) (show ((s.size : Int) + 1) ≠ 0 by omega)
    have h2 := Int.emod_lt_of_pos (at_ % 18446744073709551616) (show (0 : Int) < (s.size : Int) + 1 by omega)
    refine ⟨(at_ % 18446744073709551616 % ((s.size : Int) + 1)).toNat, ?_, by omega⟩
    unfold wrap64
    omega
  rw [hk]
  clear hk
  have hap0 : ∀ g, (Value.slice none 0 0).ownBlock = some g → (Value.slice none 0 0).ownBlock ≠ some g := fun g e => by cases e
  refine (hA3.write s hs (by simp) (by have := hb2.size; have := hb3.size; omega)).mono ?_
  rintro e w4 ⟨rfl, rv4, hA4, hr4, hK4⟩
  have hB4 := hB3.other hA3 (by omega) hap0 hK4
  have hb4 : Below w.heap.size w3 w4 := hK4.below hA3 hHA hb1.size hbw3.size
  have hap4 : ∀ g, rv4.ownBlock = some g → (Value.slice none 0 0).ownBlock ≠ some g := fun g _ e => by cases e
  have hbw4 := hbw3.trans hb4
  have hsw4 := hK4.size
  rw [List.nil_append] at hA4
  have hsl : ∀ w', (Instr.slice 9 (.string s) none (some (.int .i64 (k : Int))) none).run Try.prog w' = .ok (.string (s.extract 0 k)) w' := fun w' => by
    rw [run_slice_string_to_if w' 9 s .i64 (k : Int) Try.underlying9, if_pos (by omega)]
    rfl
  obtain ⟨sk, hsk⟩ : ∃ sk, sk = s.extract 0 k := ⟨_, rfl⟩
  rw [← hsk] at hsl
  have hskl : sk.data.toList = s.data.toList.take k := by
    rw [hsk, ByteArray.data_extract, Array.toList_extract, List.extract_eq_take_drop]
    simp
  have hsks : sk.size = k := by rw [hsk, ByteArray.size_extract]; omega
  have HSK := Lib.hid (And.intro hsk (And.intro hskl hsks))
  clear hsk hskl hsks
  go_wp2_with fail
  refine (hB4.write sk (by rw [HSK.out.2.2]; omega) (by simp) (by have := hb3.size; omega)).mono ?_
  rintro e w5 ⟨rfl, rv5, hB5, hr5, hK5⟩
  have hA5 := hA4.other hB4 (by omega) hap4 hK5
  have hap5 := hA4.apart hr5
  have hb5 : Below w.heap.size w4 w5 := hK5.below hB4 (by omega) (by omega) hbw4.size
  have hbw5 := hbw4.trans hb5
  have hsw5 := hK5.size
  rw [List.nil_append] at hB5
  go_wp2
  obtain ⟨wo, rfl⟩ : ∃ wo : World, wo = w5 := ⟨_, rfl⟩
  obtain ⟨t, ht⟩ : ∃ t, t = bits .and .i64 times 7 := ⟨_, rfl⟩
  have htm : t ≤ 9223372036854775807 := by rw [ht]; exact bits_hi_i64 _ _ _
  have hte : bits .and .i64 times 7 = t := ht.symm
  clear ht
  rw [HSK.out.2.1] at hB5
  obtain ⟨Lk, hLk⟩ : ∃ Lk, Lk = sha (s.data.toList.take k) := ⟨_, rfl⟩
  have hLkl : Lk.length = 32 := by rw [hLk, sha_length]
  have hss : shaV sk = .agg (bcells Lk) := by rw [hLk, shaV, HSK.out.2.1]
  have hlT : s.data.toList.length ≤ 140737488351232 := hs
  have hlK : (s.data.toList.take k).length ≤ 140737488351232 := Nat.le_trans (by rw [List.length_take]; exact Nat.min_le_right _ _) hlT
  have HLk := Lib.hid (And.intro hLk hss)
  clear hLk hss
  have hneq : ∀ w', (binOp .neq 29 (.agg (bcells Lk)) (.agg (bcells Lk))).run Try.prog w' = .ok (.bool false) w' := fun w' => by rw [neq_bytes w' Lk Lk hLkl hLkl]; simp
  have hneq2 : ∀ w', (Op.equalIn 10000 29 (.agg (bcells Lk)) (.agg (bcells Lk))).run Try.prog w' = .ok true w' := fun w' => by rw [run_equal_bytes w' Lk Lk hLkl hLkl]; simp
  have hsum2 : ∀ w0 x : World, Calls Try.prog 36 #[.string sk] (later w0 x) fun e w'' => e = .returned (.agg (bcells Lk)) ∧ ∃ k, w'' = later w0 k := fun w0 x => by
    rw [← HLk.out.2]
    exact later_call (ssum_any sk _ (by rw [HSK.out.2.2]; omega))
  have hbase2 : w2.heap.size ≤ wo.heap.size := by have := hb3.size; omega
  have hbase1 : w1.heap.size ≤ wo.heap.size := by have := hb2.size; omega
  have hw1 := hb1.size
  have hw2 := hbw2.size
  clear hA2 hA3 hA4 hB3 hB4 hK4 hK5 hb4 hb5 hbw4 hap0 hap4 hr4 hr5 hbw3 hbw2 hb1 hb2 hb3 hsw4 hsw5 hbs2 hbs3 hs2 hs3
  go_loopw [10] (fun i wr => ∃ (j : Nat) (rvb : Value), i = .int .i64 j ∧ DigL wr Da w1.heap.size rv4 s.data.toList ∧ DigL wr Db w2.heap.size rvb (s.data.toList.take k) ∧ (∀ g, rv4.ownBlock = some g → rvb.ownBlock ≠ some g) ∧ Below w.heap.size w wr ∧ wo.heap.size ≤ wr.heap.size ∧ (j : Int) ≤ 9223372036854775807) (fun i _ => (t - intOf i).toNat)
  case atStart => exact ⟨0, rv5, rfl, hA5, hB5, hap5, hbw5, Nat.le_refl _, by omega⟩
  case round =>
    clear hA5 hB5 hap5 hbw5
    obtain ⟨j, rvb, rfl, hA, hB, hap, hbw, hsw, hj⟩ := hrel
    by_cases h1 : (j : Int) < t
    · have hsumb : ∀ x : World, Calls Try.prog 34 #[.pointer (some ⟨Db, 0, none⟩)] (later wr x) fun e w'' => e = .returned (.agg (bcells Lk)) ∧ ∃ k, w'' = later wr k := fun x => by
        rw [HLk.out.1]
        exact later_call ((hB.later x).sum (by omega))
      have hsum2' := hsum2 wr
      clear hsum2
      go_wp2
      refine wp_region_later (by kernel_rfl) (by kernel_rfl) ?_
      repeat (go_big_quiet_step ((first | (go_at_call 34; exact hsumb _) | (go_at_call 36; exact hsum2' _))))
      refine wpQuiet_nil ?_
      rintro _ ⟨x, rfl⟩
      have hA' := hA.later x
      have hB' := hB.later x
      have hbl := later_below wr x
      have hbls := hbl.size
      go_wp2_with fail
      refine (hB'.write _ (by decide) (by omega) (by omega)).mono ?_
      rintro e w6 ⟨rfl, rv6, hB6, hr6, hK6⟩
      have hA6 := hA'.other hB' (by omega) hap hK6
      have hap6 := hA'.apart hr6
      have hb6 : Below w.heap.size (later wr x) w6 := hK6.below hB' (by omega) (by omega) (by omega)
      have hs6 := hK6.size
      have hB7 : DigL w6 Db w2.heap.size rv6 (s.data.toList.take k) := by
        have := hB6
        rwa [show (⟨#[]⟩ : ByteArray).data.toList = [] from rfl, List.append_nil] at this
      go_wp2_with fail
      go_roundw
      case rel => exact ⟨j + 1, rv6, by go_num, hA6, hB7, hap6, hbw.trans ((hbl.mono hbw.size).trans hb6), by omega, by omega⟩
      case measure => simp [intOf]; omega
    · have hsl2 : ∀ w', (Instr.slice 9 (.string s) (some (.int .i64 (k : Int))) none none).run Try.prog w' = .ok (.string (s.extract k s.size)) w' := fun w' => by
        rw [run_slice_string_from_if w' 9 s .i64 (k : Int) Try.underlying9, if_pos (by omega)]
        rfl
      obtain ⟨sr, hsr⟩ : ∃ sr, sr = s.extract k s.size := ⟨_, rfl⟩
      rw [← hsr] at hsl2
      have hsrl : sr.data.toList = s.data.toList.drop k := by
        rw [hsr, ByteArray.data_extract, Array.toList_extract, List.extract_eq_take_drop, List.take_of_length_le (by rw [List.length_drop]; exact Nat.le_refl _)]
      have hsrs : sr.size ≤ s.size := by rw [hsr, ByteArray.size_extract]; omega
      have HSR := Lib.hid (And.intro hsr hsrl)
      clear hsr hsrl hsum2
      go_wp2_with fail
      refine (hB.write sr (by omega) (by omega) (by omega)).mono ?_
      rintro e w6 ⟨rfl, rv6, hB6, hr6, hK6⟩
      have hA6 := hA.other hB (by omega) hap hK6
      have hb6 : Below w.heap.size wr w6 := hK6.below hB (by omega) (by omega) (by omega)
      have hbw6 := hbw.trans hb6
      have hB7 : DigL w6 Db w2.heap.size rv6 s.data.toList := by
        have := hB6
        rwa [HSR.out.2, List.take_append_drop] at this
      obtain ⟨Ls, hLs⟩ : ∃ Ls, Ls = sha s.data.toList := ⟨_, rfl⟩
      have hLsl : Ls.length = 32 := by rw [hLs, sha_length]
      obtain ⟨nl, hnl⟩ : ∃ nl : Int, nl = (s.data.toList.length : Int) := ⟨_, rfl⟩
      have heq : ∀ w', (binOp .eql 29 (.agg (bcells Ls)) (.agg (bcells Ls))).run Try.prog w' = .ok (.bool true) w' := fun w' => by rw [eql_bytes w' Ls Ls hLsl hLsl]; simp
      have heq2 : ∀ w', (Op.equalIn 10000 29 (.agg (bcells Ls)) (.agg (bcells Ls))).run Try.prog w' = .ok true w' := fun w' => by rw [run_equal_bytes w' Ls Ls hLsl hLsl]; simp
      have HN := Lib.hid (And.intro hLs hnl)
      clear hLs hnl hB6 hK6 hr6 hb6 hB hA hneq hneq2
      go_wp2_with fail
      refine (hA6.sum (by omega)).mono ?_
      rintro e w7 ⟨rfl, hb7⟩
      rw [← HN.out.1]
      have hA7 := hA6.below hb7
      have hB8 := hB7.below hb7
      go_wp2_with fail
      refine (hB8.sum (by omega)).mono ?_
      rintro e w8 ⟨rfl, hb8⟩
      rw [← HN.out.1]
      have hA9 := hA7.below hb8
      have hB9 := hB8.below hb8
      go_wp2_with fail
      refine hA9.len.mono ?_
      rintro e _ ⟨rfl, rfl⟩
      rw [← HN.out.2]
      go_wp2_with fail
      refine hB9.len.mono ?_
      rintro e _ ⟨rfl, rfl⟩
      rw [← HN.out.2]
      go_wp2
      go_ret
      exact ⟨rfl, hbw6.trans ((hb7.mono hbw6.size).trans (hb8.mono (by have := hbw6.size; have := hb7.size; omega)))⟩
end Go.Proofs.Ytmhbkilpllgchaa
