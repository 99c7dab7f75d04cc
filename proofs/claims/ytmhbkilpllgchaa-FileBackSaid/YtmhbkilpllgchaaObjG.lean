/- The reference's Clash. -/
import Derived.Test.YtmhbkilpllgchaaObjE
namespace Go.Proofs.Ytmhbkilpllgchaa
open Go.RowKit BigFrame
set_option linter.unusedVariables false
set_option linter.unusedSimpArgs false

theorem ba_ext2 {x y : ByteArray} (h : x.data.toList = y.data.toList) : x = y := by
  cases x; cases y
  congr 1
  exact Array.toList_inj.1 h
/-- Texts whose hashes tell them apart, up to here. -/
def Apart (ss : List ByteArray) (k : Nat) : Prop := ∀ i, i < k → ∀ j, j < i → objH (ss.getD i ByteArray.empty) = objH (ss.getD j ByteArray.empty) → ss.getD i ByteArray.empty = ss.getD j ByteArray.empty
set_option maxRecDepth 100000 in
set_option maxHeartbeats 4000000 in
theorem clash_any (pa : Option Addr) (ss : List ByteArray) (c : Nat) (w : World) (hn : ss.length * 16 ≤ 140737488351232) (hx : Strs w pa ss) (hz : ∀ j, j < ss.length → (ss.getD j ByteArray.empty).size ≤ 140737488351232) :
    Calls Try.prog 65 #[.slice pa ss.length c] w fun e w' => (∃ b, e = .returned (.bool b) ∧ (b = false → Apart ss ss.length)) ∧ Below w.heap.size w w' := by
  obtain ⟨n, en⟩ : ∃ n, n = ss.length := ⟨_, rfl⟩
  have HX := Lib.hid (And.intro hx (And.intro hz en))
  have hn2 : n ≤ 8796093022208 := by omega
  rw [← en]
  clear en hn hz hx
  go_enter Try.func65, Try.ntmps65
  go_wp2
  go_loopw [3, 4] (fun i u wr => ∃ k : Nat, i = .int .i64 (k : Int) ∧ k ≤ n ∧ Hid (Apart ss k) ∧ Below w.heap.size w wr) (fun i _ _ => n - (intOf i).toNat)
  case atStart => exact ⟨0, rfl, by omega, Lib.hid (fun i hi => by omega), Below.refl _ _⟩
  case round =>
    obtain ⟨k, rfl, hk, HA, hbw⟩ := hrel
    by_cases h1 : k < n
    · have hk1 := HX.out.2.1 k (by rw [← HX.out.2.2]; exact h1)
      obtain ⟨a, rfl, hblk, hck⟩ := HX.out.1.at (j := k) (by rw [← HX.out.2.2]; exact h1)
      obtain ⟨q, eq⟩ : ∃ q, q = ss.getD k ByteArray.empty := ⟨_, rfl⟩
      rw [← eq] at hk1 hck
      have EQ := Lib.hid eq
      clear eq
      go_wp2
      go_loopw [4] (fun u wr => ∃ j : Nat, u = .int .i64 (j : Int) ∧ j ≤ k ∧ Hid (∀ i, i < j → objH q = objH (ss.getD i ByteArray.empty) → q = ss.getD i ByteArray.empty) ∧ Below w.heap.size w wr) (fun u _ => k - (intOf u).toNat)
      case atStart => exact ⟨0, rfl, by omega, Lib.hid (fun i hi => by omega), hbw⟩
      case round =>
        clear hbw
        obtain ⟨j, rfl, hj, HI, hbw⟩ := hrel
        by_cases h2 : j < k
        · have hj1 := HX.out.2.1 j (by rw [← HX.out.2.2]; omega)
          obtain ⟨a', ha', hblj, hcj⟩ := HX.out.1.at (j := j) (by rw [← HX.out.2.2]; omega)
          obtain rfl : a = a' := Option.some.inj ha'
          obtain ⟨r, er⟩ : ∃ r, r = ss.getD j ByteArray.empty := ⟨_, rfl⟩
          rw [← er] at hj1 hcj
          have ER := Lib.hid er
          clear er ha'
          have hcq : ∀ x, (later wr x).cell? (a.add k) = some (.string q) := fun x => ((later_below wr x).cell (Nat.lt_of_lt_of_le hblk hbw.size)).trans ((hbw.cell hblk).trans hck)
          have hcr : ∀ x, (later wr x).cell? (a.add j) = some (.string r) := fun x => ((later_below wr x).cell (Nat.lt_of_lt_of_le hblj hbw.size)).trans ((hbw.cell hblj).trans hcj)
          have hbx : ∀ x, Below w.heap.size w (later wr x) := fun x => hbw.trans ((later_below wr x).mono hbw.size)
          go_upto_region 7 with fail
          have hk2 := HX.out.2.2
          have hnk : (k : Int) < (n : Int) := by omega
          have hnj : (j : Int) < (n : Int) := by omega
          obtain ⟨HQ, eHQ⟩ : ∃ H, H = objH q := ⟨_, rfl⟩
          obtain ⟨HR, eHR⟩ : ∃ H, H = objH r := ⟨_, rfl⟩
          have hQl : HQ.length = 32 := by rw [eHQ]; exact objH_length q
          have hRl : HR.length = 32 := by rw [eHR]; exact objH_length r
          have c1 : ∀ x, Calls Try.prog 58 #[.string q] (later wr x) fun e w'' => e = .returned (.agg (bcells HQ)) ∧ ∃ k, w'' = later wr k := fun x => by rw [eHQ]; exact later_call (obj_any q _ hk1)
          have c2 : ∀ x, Calls Try.prog 58 #[.string r] (later wr x) fun e w'' => e = .returned (.agg (bcells HR)) ∧ ∃ k, w'' = later wr k := fun x => by rw [eHR]; exact later_call (obj_any r _ hj1)
          have heq : ∀ w', (binOp .eql 29 (.agg (bcells HQ)) (.agg (bcells HR))).run Try.prog w' = .ok (.bool (decide (HQ = HR))) w' := fun w' => eql_bytes w' HQ HR hQl hRl
          have heq2 : ∀ w', (Op.equalIn 10000 29 (.agg (bcells HQ)) (.agg (bcells HR))).run Try.prog w' = .ok (decide (HQ = HR)) w' := fun w' => run_equal_bytes w' HQ HR hQl hRl
          have hstep : (HQ = HR → q = r) → ∀ i, i < j + 1 → objH q = objH (ss.getD i ByteArray.empty) → q = ss.getD i ByteArray.empty := fun h i hi he => by
            rcases Nat.lt_or_ge i j with g | g
            · exact HI.out i g he
            · obtain rfl : i = j := by omega
              rw [← ER.out] at he ⊢
              exact h (by rw [eHQ, eHR, he])
          have CC := Lib.hid (And.intro c1 (And.intro c2 hstep))
          clear c1 c2 hstep eHQ eHR hQl hRl hk2
          have hway : (q = r) ∨ (¬ q.toList = r.toList ∧ (q.toList == r.toList) = false ∧ HQ = HR) ∨ (¬ q.toList = r.toList ∧ (q.toList == r.toList) = false ∧ ¬ HQ = HR) := by
            by_cases g : q = r
            · exact .inl g
            · have g2 : ¬ q.toList = r.toList := fun e => g (ba_ext2 (by rw [← Lib.toList_data, ← Lib.toList_data, e]))
              have g3 : (q.toList == r.toList) = false := by rw [beq_eq_false_iff_ne]; exact g2
              by_cases g4 : HQ = HR
              · exact .inr (.inl ⟨g2, g3, g4⟩)
              · exact .inr (.inr ⟨g2, g3, g4⟩)
          rcases hway with g | ⟨g2, g3, g4⟩ | ⟨g2, g3, g4⟩
          case' inl => have hs := CC.out.2.2 (fun _ => g); subst g; have HS := Lib.hid hs; clear hs
          case' inr.inl => rw [decide_eq_true g4] at heq heq2; clear g4
          case' inr.inr => have hs := CC.out.2.2 (fun h => absurd h g4); have HS := Lib.hid hs; rw [decide_eq_false g4] at heq heq2; clear g4 hs
          all_goals
            refine wp_region_later (by kernel_rfl) (by kernel_rfl) ?_
            repeat (go_big_quiet_step ((go_at_call 58; with_reducible first | exact CC.out.1 _ | exact CC.out.2.1 _)))
            refine wpQuiet_nil ?_
            rintro _ ⟨x, rfl⟩
            have hbx' := hbx x
            go_wp2
          all_goals first
            | (go_ret; exact ⟨⟨true, rfl, fun h => by cases h⟩, hbx'⟩)
            | (go_roundw
               case rel => exact ⟨j + 1, by go_num, by omega, HS, hbx'⟩
               case measure => simp [intOf]; omega)
        · obtain rfl : j = k := by omega
          have hap : Apart ss (j + 1) := fun i hi => by
            rcases Nat.lt_or_ge i j with g | g
            · exact HA.out i g
            · obtain rfl : i = j := by omega
              intro m hm
              rw [← EQ.out]
              exact HI.out m hm
          have HAP := Lib.hid hap
          clear hap
          go_wp2
          go_roundw
          case rel => exact ⟨j + 1, by go_num, by omega, HAP, hbw⟩
          case measure => simp [intOf]; omega
    · obtain rfl : k = n := by omega
      go_wp2
      go_ret
      exact ⟨⟨false, rfl, fun _ => HA.out⟩, hbw⟩
end Go.Proofs.Ytmhbkilpllgchaa
