/- The walk of Shas. -/
import Derived.Test.YtmhbkilpllgchaaPaA
import Derived.Test.YtmhbkilpllgchaaRow
namespace Go.Proofs.Ytmhbkilpllgchaa
open Go.RowKit BigFrame
set_option linter.unusedVariables false
set_option linter.unusedSimpArgs false

set_option maxRecDepth 100000 in
set_option maxHeartbeats 2000000 in
theorem shas_any (s : ByteArray) (pa : Option Addr) (ss : List ByteArray) (c : Nat) (w : World) (hs : s.size ≤ 140737488351232) (hn : ss.length * 16 ≤ 140737488351232) (hx : Strs w pa ss) (hz : ∀ j, j < ss.length → (ss.getD j ByteArray.empty).size ≤ 140737488351232) :
    Calls Try.prog 4 #[.string s, .slice pa ss.length c] w fun e w' => e = .returned (.bool true) ∧ Below w.heap.size w w' := by
  obtain ⟨n, en⟩ : ∃ n, n = ss.length := ⟨_, rfl⟩
  have EN := Lib.hid en
  rw [← en] at hn hz ⊢
  clear en
  have hn2 : n ≤ 9223372036854775807 := by omega
  clear hn
  go_enter Try.func4, Try.ntmps4
  go_wp2_with fail
  refine (DigL.new w).mono ?_
  rintro e w2 ⟨Da, eDa, rfl, hA2, hb2, hs2⟩
  have EA := Lib.hid eDa
  have hHA : w.heap.size ≤ Da := by omega
  clear eDa
  go_wp2
  obtain ⟨wo, rfl⟩ : ∃ wo : World, wo = w2 := ⟨_, rfl⟩
  have hbase := hb2.size
  go_loopw [6, 7] (fun v i wr => ∃ (av : ByteArray) (j : Nat) (rva : Value), v = .string av ∧ i = .int .i64 (j : Int) ∧ j ≤ 40 ∧ av.size ≤ j * 140737488351232 ∧ DigL wr Da w.heap.size rva av.data.toList ∧ Below w.heap.size w wr) (fun _ i _ => (40 - intOf i).toNat)
  case atStart => exact ⟨⟨#[]⟩, 0, .slice none 0 0, rfl, rfl, by omega, by decide, hA2, hb2⟩
  case round =>
    clear hA2 hb2 hs2
    obtain ⟨av, j, rva, rfl, rfl, hj, hav, hA, hbw⟩ := hrel
    have hwH := hbw.size
    by_cases h1 : j < n ∧ j < 40
    · obtain ⟨h1, h2⟩ := h1
      obtain ⟨a, rfl, hbl, hcx⟩ := hx.at (j := j) (by rw [← EN.out]; exact h1)
      have hzj := hz j h1
      obtain ⟨sj, esj⟩ : ∃ sj, sj = ss.getD j ByteArray.empty := ⟨_, rfl⟩
      rw [← esj] at hcx hzj
      have hcx2 : wr.cell? (a.add j) = some (.string sj) := (hbw.cell hbl).trans hcx
      have ESJ := Lib.hid esj
      clear esj hcx
      obtain ⟨bz, hbz⟩ : ∃ bz, bz = av ++ sj := ⟨_, rfl⟩
      have hbzs : bz.size = av.size + sj.size := by rw [hbz, ByteArray.size_append]
      have hbzl : bz.data.toList = av.data.toList ++ sj.data.toList := by rw [hbz, ByteArray.data_append, Array.toList_append]
      have hbz2 : bz.size ≤ (j + 1) * 140737488351232 := by omega
      have hbz3 : bz.size ≤ 576460752303423488 := by omega
      have hsz1 : av.data.toList.length = av.size := rfl
      have hsz2 : bz.data.toList.length = bz.size := rfl
      have HB := Lib.hid (And.intro hbzs (And.intro hbzl (And.intro hsz1 hsz2)))
      have hbz' := hbz.symm
      clear hbz hbzs hbzl hsz1 hsz2
      have hpos2 : wr.cell? (a.add j) = some (.string sj) := hcx2
      go_wp2_with fail
      refine (hA.write sj hzj (by rw [HB.out.2.2.1]; omega) (by omega)).mono ?_
      rintro e w6 ⟨rfl, rv6, hA6, hr6, hK6⟩
      rw [← HB.out.2.1] at hA6
      have hb6 : Below w.heap.size wr w6 := hK6.below hA (by omega) (by omega) (by omega)
      have hcx6 : w6.cell? (a.add j) = some (.string sj) := (hb6.cell hbl).trans hcx2
      have hbw6 := hbw.trans hb6
      clear hA hK6 hr6 hcx2 hpos2 hb6
      obtain ⟨m3, hm3⟩ : ∃ m3, m3 = bits .and .i64 (j : Int) 3 := ⟨_, rfl⟩
      have hm3' := hm3.symm
      clear hm3
      obtain ⟨Ls, hLs⟩ : ∃ Ls, Ls = sha bz.data.toList := ⟨_, rfl⟩
      have hLsl : Ls.length = 32 := by rw [hLs, sha_length]
      have HL := Lib.hid hLs
      clear hLs
      have hneq : ∀ w', (binOp .neq 29 (.agg (bcells Ls)) (.agg (bcells Ls))).run Try.prog w' = .ok (.bool false) w' := fun w' => by rw [neq_bytes w' Ls Ls hLsl hLsl]; simp
      have hneq2 : ∀ w', (Op.equalIn 10000 29 (.agg (bcells Ls)) (.agg (bcells Ls))).run Try.prog w' = .ok true w' := fun w' => by rw [run_equal_bytes w' Ls Ls hLsl hLsl]; simp
      by_cases h3 : (m3 == 0) = true
      all_goals
        go_wp2_with fail
        refine hA6.len.mono ?_
        rintro e w7 ⟨rfl, rfl⟩
        rw [HB.out.2.2.2]
      · go_wp2_with fail
        refine (hA6.sum (by rw [HB.out.2.2.2]; omega)).mono ?_
        rintro e w8 ⟨rfl, hb8⟩
        rw [← HL.out]
        have hA8 := hA6.below hb8
        have hbw8 := hbw6.trans (hb8.mono hbw6.size)
        go_wp2_with fail
        refine (refsha_any bz _ hbz3).mono ?_
        rintro e w9 ⟨rfl, hb9⟩
        rw [← HL.out]
        have hA9 := hA8.below hb9
        have hbw9 := hbw8.trans (hb9.mono hbw8.size)
        go_wp2
        go_roundw
        case rel => exact ⟨bz, j + 1, rv6, rfl, by go_num, by omega, hbz2, hA9, hbw9⟩
        case measure => simp [intOf]; omega
      · go_wp2
        go_roundw
        case rel => exact ⟨bz, j + 1, rv6, rfl, by go_num, by omega, hbz2, hA6, hbw6⟩
        case measure => simp [intOf]; omega
    · have hav3 : av.size ≤ 576460752303423488 := by omega
      obtain ⟨Ls, hLs⟩ : ∃ Ls, Ls = sha s.data.toList := ⟨_, rfl⟩
      have hLsl : Ls.length = 32 := by rw [hLs, sha_length]
      obtain ⟨Ms, hMs⟩ : ∃ Ms, Ms = sha av.data.toList := ⟨_, rfl⟩
      have hMsl : Ms.length = 32 := by rw [hMs, sha_length]
      have hss : shaV s = .agg (bcells Ls) := by rw [hLs, shaV]
      have HN := Lib.hid (And.intro hLs (And.intro hss hMs))
      clear hLs hss hMs
      have heq : ∀ w', (binOp .eql 29 (.agg (bcells Ls)) (.agg (bcells Ls))).run Try.prog w' = .ok (.bool true) w' := fun w' => by rw [eql_bytes w' Ls Ls hLsl hLsl]; simp
      have heq2 : ∀ w', (Op.equalIn 10000 29 (.agg (bcells Ls)) (.agg (bcells Ls))).run Try.prog w' = .ok true w' := fun w' => by rw [run_equal_bytes w' Ls Ls hLsl hLsl]; simp
      have heqM : ∀ w', (binOp .eql 29 (.agg (bcells Ms)) (.agg (bcells Ms))).run Try.prog w' = .ok (.bool true) w' := fun w' => by rw [eql_bytes w' Ms Ms hMsl hMsl]; simp
      have heqM2 : ∀ w', (Op.equalIn 10000 29 (.agg (bcells Ms)) (.agg (bcells Ms))).run Try.prog w' = .ok true w' := fun w' => by rw [run_equal_bytes w' Ms Ms hMsl hMsl]; simp
      have hcond : ((j : Int) < (n : Int)) → ¬ ((j : Int) < 40) := by omega
      by_cases h3 : (j : Int) < (n : Int)
      all_goals
        go_wp2_with fail
        refine (ssum_any s _ hs).mono ?_
        rintro e w7 ⟨rfl, hb7⟩
        rw [HN.out.2.1]
        have hA7 := hA.below hb7
        have hbw7 := hbw.trans (hb7.mono hbw.size)
        go_wp2_with fail
        refine (refsha_any s _ (by omega)).mono ?_
        rintro e w8 ⟨rfl, hb8⟩
        rw [← HN.out.1]
        have hA8 := hA7.below hb8
        have hbw8 := hbw7.trans (hb8.mono hbw7.size)
        go_wp2_with fail
        refine (hA8.sum (by show av.size ≤ _; omega)).mono ?_
        rintro e w9 ⟨rfl, hb9⟩
        rw [← HN.out.2.2]
        have hbw9 := hbw8.trans (hb9.mono hbw8.size)
        go_wp2_with fail
        refine (refsha_any av _ hav3).mono ?_
        rintro e w10 ⟨rfl, hb10⟩
        rw [← HN.out.2.2]
        have hbw10 := hbw9.trans (hb10.mono hbw9.size)
        go_wp2_with fail
        refine (awake1_any _).mono ?_
        rintro e w11 ⟨rfl, hb11⟩
        have hbw11 := hbw10.trans (hb11.mono hbw10.size)
        go_wp2
        go_ret
        exact ⟨rfl, hbw11⟩
end Go.Proofs.Ytmhbkilpllgchaa
