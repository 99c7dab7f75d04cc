/- again of law 16: names, with slashes ahead, make the path. -/
import Derived.Test.YtmhbkilpllgchaaPhA
import Derived.Test.YtmhbkilpllgchaaJn
import Derived.Test.YtmhbkilpllgchaaMadA
namespace Go.Proofs.Ytmhbkilpllgchaa
open Go.RowKit BigFrame
set_option linter.unusedVariables false
set_option linter.unusedSimpArgs false

def ls (ss : List ByteArray) : List (List UInt8) := ss.map fun x => x.data.toList
theorem ls_take_succ (ss : List ByteArray) (i : Nat) (h : i < ss.length) : joinL (ls (ss.take (i + 1))) = joinL (ls (ss.take i)) ++ 47 :: (ss.getD i ByteArray.empty).data.toList := by
  rw [List.take_succ_eq_append_getElem h, List.getD, List.getElem?_eq_getElem h]
  simp only [ls, List.map_append, List.map_cons, List.map_nil, joinL_snoc, Option.getD_some]
theorem join_take_le (ss : List ByteArray) (i : Nat) : (joinL (ls (ss.take i))).length ≤ (joinL (ls ss)).length := by
  have h : joinL (ls ss) = joinL (ls (ss.take i)) ++ joinL (ls (ss.drop i)) := by
    conv => lhs; rw [← List.take_append_drop i ss]
    simp only [ls, joinL, List.map_append, List.flatMap_append]
  rw [h, List.length_append]
  omega
theorem ba_ext {x y : ByteArray} (h : x.data.toList = y.data.toList) : x = y := by
  rw [← bs_of x, ← bs_of y, h]

set_option maxRecDepth 100000 in
set_option maxHeartbeats 4000000 in
theorem again_yes (S : ByteArray) (pa : Option Addr) (ss : List ByteArray) (c : Nat) (w : World) (hx : Strs w pa ss) (hj : joinL (ls ss) = S.data.toList) (hpos : 0 < ss.length) (hn : ss.length ≤ 8) (hS : S.size ≤ 140737488351232) :
    Calls Try.prog 52 #[.string S, .slice pa ss.length c] w fun e w' => e = .returned (.bool true) ∧ w = w' := by
  obtain ⟨n, en⟩ : ∃ n, n = ss.length := ⟨_, rfl⟩
  have HX := Lib.hid (And.intro hx (And.intro hj en))
  rw [← en] at hpos hn ⊢
  clear hx hj en
  go_enter Try.func52, Try.ntmps52
  go_wp2
  go_loop [5, 6] (fun s i => ∃ (j : Nat) (T : ByteArray), s = .string T ∧ i = .int .i64 (j : Int) ∧ j ≤ n ∧ T.size ≤ S.size ∧ Hid (T.data.toList = joinL (ls (ss.take j)))) (fun _ i => n - (intOf i).toNat)
  case atStart => exact ⟨0, _, rfl, rfl, by omega, Nat.zero_le _, Lib.hid rfl⟩
  case round =>
    obtain ⟨j, T, rfl, rfl, hj, hT, HT⟩ := hrel
    by_cases hlt : j < n
    · obtain ⟨a, rfl, hbl, hcx⟩ := HX.out.1.at (j := j) (by rw [← HX.out.2.2]; exact hlt)
      have hts := ls_take_succ ss j (by rw [← HX.out.2.2]; exact hlt)
      have hle := join_take_le ss (j + 1)
      obtain ⟨q, eq⟩ : ∃ q, q = ss.getD j ByteArray.empty := ⟨_, rfl⟩
      rw [← eq] at hcx hts
      obtain ⟨T1, hT1⟩ : ∃ T1, T ++ (⟨#[47]⟩ : ByteArray) = T1 := ⟨_, rfl⟩
      obtain ⟨T2, hT2⟩ : ∃ T2, T1 ++ q = T2 := ⟨_, rfl⟩
      have hT2l : T2.data.toList = joinL (ls (ss.take (j + 1))) := by
        rw [← hT2, ← hT1, ByteArray.data_append, ByteArray.data_append, Array.toList_append, Array.toList_append, HT.out, hts]
        simp
      have hT2s : T2.size ≤ S.size := by
        have e1 : T2.data.toList.length = T2.size := rfl
        have e2 : S.data.toList.length = S.size := rfl
        rw [HX.out.2.1] at hle
        rw [hT2l] at e1
        omega
      have hsz : T2.size = T.size + 1 + q.size := by
        rw [← hT2, ← hT1, ByteArray.size_append, ByteArray.size_append]; rfl
      have hT1s : T1.size = T.size + 1 := by rw [← hT1, ByteArray.size_append]; rfl
      have hadd1 : ∀ w', (Op.stringOp .add T ⟨#[47]⟩).run Try.prog w' = .ok (.string T1) w' := fun w' => by
        rw [run_string_add_sum w' T _ (by have : (⟨#[47]⟩ : ByteArray).size = 1 := rfl; omega), hT1]
      have hadd2 : ∀ w', (Op.stringOp .add T1 q).run Try.prog w' = .ok (.string T2) w' := fun w' => by
        rw [run_string_add_sum w' T1 q (by omega), hT2]
      have HT2 := Lib.hid hT2l
      have hlt' : (j : Int) < (n : Int) := by omega
      clear hT2 hT1 hT2l hts hle eq hsz hT1s
      go_wp2
      go_round
      case rel => exact ⟨j + 1, T2, rfl, by go_num, by omega, hT2s, HT2⟩
      case measure => simp [intOf]; omega
    · obtain rfl : j = n := by omega
      have hTS : T = S := ba_ext (by rw [HT.out, HX.out.2.2, List.take_length, HX.out.2.1])
      subst hTS
      have hpos' : (0 : Int) < (j : Int) := by omega
      go_wp2
      go_ret
      exact ⟨rfl, rfl⟩
end Go.Proofs.Ytmhbkilpllgchaa
