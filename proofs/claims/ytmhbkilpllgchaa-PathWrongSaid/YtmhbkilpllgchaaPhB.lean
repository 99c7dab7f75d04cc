/- The walk of PathWrong. -/
import Derived.Test.YtmhbkilpllgchaaPhA
namespace Go.Proofs.Ytmhbkilpllgchaa
open Go.RowKit BigFrame
set_option linter.unusedVariables false
set_option linter.unusedSimpArgs false

/-- Texts that are no paths. -/
def wrongs : List ByteArray := [⟨#[]⟩, ⟨#[97]⟩, ⟨#[97, 47, 98]⟩, ⟨#[47, 47]⟩, ⟨#[47, 97, 47]⟩, ⟨#[47, 97, 47, 47, 98]⟩, ⟨#[47, 46]⟩, ⟨#[47, 46, 46]⟩, ⟨#[47, 97, 47, 46, 46, 47, 98]⟩, ⟨#[47, 97, 0]⟩, ⟨#[47, 97, 98, 99, 100, 101, 102, 103, 104, 105, 106, 107, 108, 109, 110, 111, 112, 113, 114, 115, 116, 117, 118, 119, 120, 121]⟩, ⟨#[32, 47, 97]⟩]
theorem wrongs_none : ∀ m, m < 12 → namesL (wrongs.getD m ByteArray.empty).data.toList = none := by decide +kernel
theorem wrongs_size : ∀ m, m < 12 → (wrongs.getD m ByteArray.empty).size ≤ 128 := by decide +kernel
/-- So many names x. -/
def exes (k : Nat) : List UInt8 := (List.replicate k [(47 : UInt8), 120]).flatten
theorem exes_len (k : Nat) : (exes k).length = 2 * k := by
  unfold exes
  induction k with
  | zero => rfl
  | succ k ih => rw [List.replicate_succ, List.flatten_cons, List.length_append, ih]; simp; omega
theorem exes_succ (k : Nat) : exes (k + 1) = exes k ++ [47, 120] := by
  unfold exes
  rw [List.replicate_succ', List.flatten_append]; simp
theorem exes_few : ∀ k, k < 16 → 1 ≤ k → (namesL (exes k)).isSome = decide (k ≤ 8) ∧ ((namesL (exes k)).getD []).length = if k ≤ 8 then k else 0 := by decide +kernel
theorem and_15 (x : Int) : 0 ≤ bits .and .i64 x 15 ∧ bits .and .i64 x 15 ≤ 15 := by
  have h : bits .and .i64 x 15 = IntKind.i64.wrap ((BitVec.ofInt 64 x &&& BitVec.ofInt 64 15).toNat : Int) := rfl
  have h2 : (BitVec.ofInt 64 x &&& BitVec.ofInt 64 15).toNat ≤ 15 := by
    rw [BitVec.toNat_and]
    exact Nat.le_trans Nat.and_le_right (by decide)
  rw [h, IntKind.wrap_i64]
  omega

set_option maxRecDepth 100000 in
set_option maxHeartbeats 4000000 in
theorem wrong_any (which deep : Int) (w : World) (h1 : -9223372036854775808 ≤ which) (h2 : which ≤ 9223372036854775807) (h3 : -9223372036854775808 ≤ deep) (h4 : deep ≤ 9223372036854775807) :
    Calls Try.prog 13 #[.int .i64 which, .int .i64 deep] w fun e w' => e = .returned (.bool true) ∧ Below w.heap.size w w' := by
  obtain ⟨m, hm, hm12⟩ : ∃ m : Nat, wrap64 ((IntKind.u64.wrap which).tmod 12) = (m : Int) ∧ m < 12 := by
    rw [IntKind.wrap_u64, Int.tmod_eq_emod_of_nonneg (Int.emod_nonneg _ (by omega))]
    have h1 := Int.emod_nonneg (which % 18446744073709551616) (show (12 : Int) ≠ 0 by omega)
    have h2 := Int.emod_lt_of_pos (which % 18446744073709551616) (show (0 : Int) < 12 by omega)
    refine ⟨(which % 18446744073709551616 % 12).toNat, ?_, by omega⟩
    unfold wrap64
    omega
  obtain ⟨k, hk, hk15⟩ : ∃ k : Nat, bits .and .i64 deep 15 = (k : Int) ∧ k ≤ 15 := by
    have := and_15 deep
    exact ⟨(bits .and .i64 deep 15).toNat, by omega, by omega⟩
  obtain ⟨x, ex⟩ : ∃ x, x = wrongs.getD m ByteArray.empty := ⟨_, rfl⟩
  have hxs : x.size ≤ 128 := by rw [ex]; exact wrongs_size m hm12
  have hxn : namesL x.data.toList = none := by rw [ex]; exact wrongs_none m hm12
  have c1 := fun w => split_c x [] 1600 w (by omega) (by rw [okN, hxn]; rfl) (by rw [okE, hxn])
  have HW := Lib.hid (And.intro ex (And.intro hxn c1))
  clear hxn c1 ex
  go_enter Try.func13, Try.ntmps13
  go_wp2_with fail
  refine (awake16_any w).mono ?_
  rintro e w1 ⟨rfl, hb1⟩
  have hbA : Below w.heap.size w (w1.alloc (.cells (wrongs.map SV).toArray 9)) := hb1.alloc hb1.size _
  have hcx : (w1.alloc (.cells (wrongs.map SV).toArray 9)).cell? ⟨w1.heap.size, m, none⟩ = some (.string x) := by
    rw [(Blk.new w1 9 _).cell, List.getElem?_toArray, List.getElem?_map]
    have hml : m < wrongs.length := hm12
    rw [List.getElem?_eq_getElem hml, HW.out.1, List.getD, List.getElem?_eq_getElem hml]
    rfl
  simp only [wrongs, List.map_cons, List.map_nil, SV] at hbA hcx
  go_wp2_with fail
  refine (HW.out.2.2 _).mono ?_
  rintro e w2 ⟨p1, c1, rfl, _, hb2⟩
  have hbw2 := hbA.trans (hb2.mono hbA.size)
  clear hcx hbA hb1 hb2
  go_wp2
  go_loop [9, 10] (fun s i => ∃ (j : Nat) (S : ByteArray), s = .string S ∧ i = .int .i64 (j : Int) ∧ j ≤ k ∧ S.size ≤ 2 * j ∧ Hid (S.data.toList = exes j)) (fun _ i => k - (intOf i).toNat)
  case atStart => exact ⟨0, _, rfl, rfl, by omega, by show (0 : Nat) ≤ _; omega, Lib.hid rfl⟩
  case round =>
    obtain ⟨j, S, rfl, rfl, hj, hS, HS⟩ := hrel
    by_cases hlt : j < k
    · obtain ⟨S2, hS2⟩ : ∃ S2, S ++ (⟨#[47, 120]⟩ : ByteArray) = S2 := ⟨_, rfl⟩
      have hS2s : S2.size ≤ 2 * (j + 1) := by
        rw [← hS2, ByteArray.size_append]
        have : (⟨#[47, 120]⟩ : ByteArray).size = 2 := rfl
        omega
      have hS2l : S2.data.toList = exes (j + 1) := by rw [← hS2, ByteArray.data_append, Array.toList_append, HS.out, exes_succ]
      have HS2 := Lib.hid hS2l
      have hadd : ∀ w', (Op.stringOp .add S ⟨#[47, 120]⟩).run Try.prog w' = .ok (.string S2) w' := fun w' => by
        rw [run_string_add_sum w' S _ (by have : (⟨#[47, 120]⟩ : ByteArray).size = 2 := rfl; omega), hS2]
      have hlt' : (j : Int) < (k : Int) := by omega
      clear hS2 hS2l
      go_wp2
      go_round
      case rel => exact ⟨j + 1, S2, rfl, by go_num, by omega, hS2s, HS2⟩
      case measure => simp [intOf]; omega
    · obtain rfl : j = k := by omega
      have hs16 : S.size ≤ 140737488351232 := by omega
      have hcases : (j = 0) ∨ (1 ≤ j ∧ j ≤ 8) ∨ (8 < j) := by omega
      rcases hcases with rfl | ⟨g1, g2⟩ | g2
      · have c2 := fun w => split_c ⟨#[47]⟩ [] 0 w (by decide) (by kernel_rfl) (by kernel_rfl)
        have C2 := Lib.hid c2
        clear c2
        go_wp2_with fail
        refine (C2.out _).mono ?_
        rintro e w3 ⟨p3, c3, rfl, _, hb3⟩
        have hbw3 := hbw2.trans (hb3.mono hbw2.size)
        go_wp2_with (go_at_call 39; (with_reducible first | refine (num_any2 0 _).mono ?_ | refine (num_any2 1600 _).mono ?_); rintro e w' ⟨rfl, rfl⟩)
        go_ret
        exact ⟨rfl, hbw3⟩
      · have hx := exes_few j (by omega) g1
        rw [if_pos g2, decide_eq_true g2, ← HS.out] at hx
        obtain ⟨ns, ens⟩ : ∃ ns, ns = okN S.data.toList := ⟨_, rfl⟩
        have hnl : ns.length = j := by rw [ens, okN, List.length_map]; exact hx.2
        have hE : okE S.data.toList = 0 := by
          rw [okE]
          cases hq : namesL S.data.toList with
          | none => rw [hq] at hx; cases hx.1
          | some _ => rfl
        have c2 := fun w => split_c S ns 0 w hs16 ens.symm hE
        rw [hnl] at c2
        have C2 := Lib.hid c2
        have q1 : ((j : Int) == 0) = false := by rw [beq_eq_false_iff_ne]; omega
        have q2 : (j : Int) ≤ 8 := by omega
        have q3 : decide ((j : Int) ≤ 8) = true := decide_eq_true q2
        have q4 : decide ((8 : Int) < (j : Int)) = false := decide_eq_false (by omega)
        clear c2 hnl ens hE hx g1 g2
        go_wp2_with fail
        refine (C2.out _).mono ?_
        rintro e w3 ⟨p3, c3, rfl, _, hb3⟩
        have hbw3 := hbw2.trans (hb3.mono hbw2.size)
        go_wp2_with (go_at_call 39; (with_reducible first | refine (num_any2 0 _).mono ?_ | refine (num_any2 1600 _).mono ?_); rintro e w' ⟨rfl, rfl⟩)
        go_ret
        exact ⟨rfl, hbw3⟩
      · have hx := exes_few j (by omega) (by omega)
        rw [if_neg (by omega), decide_eq_false (by omega), ← HS.out] at hx
        have hno : namesL S.data.toList = none := by
          cases hq : namesL S.data.toList with
          | none => rfl
          | some _ => rw [hq] at hx; cases hx.1
        have c2 := fun w => split_c S [] 1600 w hs16 (by rw [okN, hno]; rfl) (by rw [okE, hno])
        have C2 := Lib.hid c2
        have q1 : ((j : Int) == 0) = false := by rw [beq_eq_false_iff_ne]; omega
        have q2 : (8 : Int) < (j : Int) := by omega
        have q3 : decide ((j : Int) ≤ 8) = false := decide_eq_false (by omega)
        have q4 : decide ((8 : Int) < (j : Int)) = true := decide_eq_true q2
        clear c2 hno hx g2
        go_wp2_with fail
        refine (C2.out _).mono ?_
        rintro e w3 ⟨p3, c3, rfl, _, hb3⟩
        have hbw3 := hbw2.trans (hb3.mono hbw2.size)
        go_wp2_with (go_at_call 39; (with_reducible first | refine (num_any2 0 _).mono ?_ | refine (num_any2 1600 _).mono ?_); rintro e w' ⟨rfl, rfl⟩)
        go_ret
        exact ⟨rfl, hbw3⟩
end Go.Proofs.Ytmhbkilpllgchaa
