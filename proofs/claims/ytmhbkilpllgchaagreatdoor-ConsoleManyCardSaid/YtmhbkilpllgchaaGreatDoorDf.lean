/- The walk of ConsoleMany. -/
import Derived.Test.YtmhbkilpllgchaaGreatDoorDd
namespace Go.Proofs.YtmhbkilpllgchaaGreatDoor
open Go.RowKit BigFrame
set_option linter.unusedVariables false
set_option linter.unusedSimpArgs false

theorem nine (z : Int) : ∃ m : Nat, wrap64 ((IntKind.u64.wrap z).tmod 9) = (m : Int) ∧ m < 9 := by
  rw [IntKind.wrap_u64, Int.tmod_eq_emod_of_nonneg (Int.emod_nonneg _ (by omega))]
  have h1 := Int.emod_nonneg (z % 18446744073709551616) (show (9 : Int) ≠ 0 by omega)
  have h2 := Int.emod_lt_of_pos (z % 18446744073709551616) (show (0 : Int) < 9 by omega)
  refine ⟨(z % 18446744073709551616 % 9).toNat, ?_, by omega⟩
  unfold wrap64
  omega

set_option maxRecDepth 100000 in
set_option maxHeartbeats 16000000 in
theorem many_any (pa : Option Addr) (zs : List Int) (c : Nat) (w : World) (hL : Laid w) (hn : zs.length * 8 ≤ 140737488351232) (hx : Ints w pa zs) (hz : ∀ j, j < zs.length → -9223372036854775808 ≤ zs.getD j 0 ∧ zs.getD j 0 ≤ 9223372036854775807) :
    Calls Tryz.prog 6 #[.slice pa zs.length c] w fun e w' => e = .returned (.bool true) ∧ Below w.heap.size w w' := by
  obtain ⟨n, en⟩ : ∃ n, n = zs.length := ⟨_, rfl⟩
  rw [← en]
  have hn' : (n : Int) ≤ 17592186043904 := by omega
  have HC := Lib.hid (And.intro (awake_any w hL) (And.intro hL (And.intro hx (And.intro hz en))))
  clear hx hz hL en hn
  go_enter Tryz.func6, Tryz.ntmps6
  go_wp2_with fail
  refine HC.out.1.mono ?_
  rintro e w1 ⟨rfl, hb1⟩
  obtain ⟨A, eA⟩ : ∃ A, A = w1.heap.size := ⟨_, rfl⟩
  obtain ⟨w2, e2⟩ : ∃ w2, w2 = w1.alloc (.cells (manys.map SV).toArray 9) := ⟨_, rfl⟩
  have hbA : Below w.heap.size w w2 := by rw [e2]; exact hb1.alloc hb1.size _
  have hB : Blk w2 A 9 (manys.map SV).toArray := by rw [e2, eA]; exact Blk.new w1 9 _
  have E2 := e2
  simp only [manys, List.map_cons, List.map_nil, SV] at E2
  have HB := Lib.hid (And.intro hbA (And.intro hB (And.intro E2 (And.intro eA hb1.size))))
  clear hbA hB E2 e2 eA hb1
  go_wp2
  rw [← HB.out.2.2.1, ← HB.out.2.2.2.1]
  go_loopw [4, 5, 6, 7, 8, 9] (fun t4 t5 t6 _ _ _ wr => ∃ (j : Nat) (S W : ByteArray) (xs : List ByteArray), t4 = .string S ∧ t5 = .string W ∧ t6 = .int .i64 (j : Int) ∧ j ≤ n ∧ j ≤ 30 ∧ S.size ≤ 101 * j ∧ W.size ≤ 201 * j ∧ Hid (j = xs.length) ∧ Hid (∀ x ∈ xs, x ∈ manys) ∧ Hid (S.data.toList = manyL xs) ∧ Hid (W.data.toList = runL xs) ∧ Below w2.heap.size w2 wr) (fun _ _ t6 _ _ _ _ => n - (intOf t6).toNat)
  case atStart => exact ⟨0, ⟨#[]⟩, ⟨#[]⟩, [], rfl, rfl, rfl, Nat.zero_le _, by omega, Nat.zero_le _, Nat.zero_le _, Lib.hid rfl, Lib.hid (fun x hx => by cases hx), Lib.hid rfl, Lib.hid rfl, Below.refl _ _⟩
  case round =>
    obtain ⟨j, S, W, xs, rfl, rfl, rfl, hjn, hj30, hS, hW, HJ, HM, HS, HW, hb⟩ := hrel
    by_cases hlt : j < n ∧ j < 30
    · obtain ⟨hlt, hl30⟩ := hlt
      have hlt' : (j : Int) < (n : Int) := by omega
      have hl30' : (j : Int) < 30 := by omega
      have hzl : j < zs.length := by rw [← HC.out.2.2.2.2]; exact hlt
      have hbw := HB.out.1.trans (hb.mono HB.out.1.size)
      obtain ⟨a, rfl, hab, hcz⟩ := (HC.out.2.2.1.below hbw).at hzl
      obtain ⟨hz1, hz2⟩ := HC.out.2.2.2.1 j hzl
      obtain ⟨z, ez⟩ : ∃ z, z = zs.getD j 0 := ⟨_, rfl⟩
      rw [← ez] at hcz hz1 hz2
      obtain ⟨m, hm, hm9⟩ := nine z
      have hml : m < manys.length := hm9
      obtain ⟨x, ex⟩ : ∃ x, x = manys[m] := ⟨_, rfl⟩
      have hmem : x ∈ manys := by rw [ex]; exact List.getElem_mem hml
      have hcx : wr.cell? ⟨A, m, none⟩ = some (.string x) := by
        rw [(HB.out.2.1.below hb HB.out.2.1.lt).cell, List.getElem?_toArray, List.getElem?_map, List.getElem?_eq_getElem hml, ex]
        rfl
      obtain ⟨hxs, -⟩ := many_short x hmem
      have c7 := run_any x wr (HC.out.2.1.below hbw)
      rw [many_one x hmem, show runE x = 0 from by rw [runE, if_neg (by omega)]] at c7
      have hlx := lineX_short x
      obtain ⟨L, eL⟩ : ∃ L : ByteArray, L = ⟨(lineX x).toArray⟩ := ⟨_, rfl⟩
      rw [← eL] at c7
      have hLs : L.size ≤ 201 := by rw [eL, size_S]; exact hlx
      obtain ⟨S1, eS1⟩ : ∃ U, S ++ x = U := ⟨_, rfl⟩
      obtain ⟨S2, eS2⟩ : ∃ U, S1 ++ ⟨#[10]⟩ = U := ⟨_, rfl⟩
      obtain ⟨W1, eW1⟩ : ∃ U, W ++ L = U := ⟨_, rfl⟩
      have z1 : S1.size = S.size + x.size := by rw [← eS1, ByteArray.size_append]
      have z2 : S2.size = S.size + x.size + 1 := by rw [← eS2, ByteArray.size_append, z1]; rfl
      have z3 : W1.size = W.size + L.size := by rw [← eW1, ByteArray.size_append]
      have hadd1 : ∀ w', (Op.stringOp .add S x).run Tryz.prog w' = .ok (.string S1) w' := fun w' => add_texts w' _ _ (by omega) eS1
      have hadd2 : ∀ w', (Op.stringOp .add S1 ⟨#[10]⟩).run Tryz.prog w' = .ok (.string S2) w' := fun w' => add_texts w' _ _ (by show S1.size + 1 ≤ _; omega) eS2
      have hadd3 : ∀ w', (Op.stringOp .add W L).run Tryz.prog w' = .ok (.string W1) w' := fun w' => add_texts w' _ _ (by omega) eW1
      have hS2 : S2.data.toList = manyL (xs ++ [x]) := by
        rw [manyL_snoc, ← HS.out, ← eS2, ← eS1, ByteArray.data_append, Array.toList_append, ByteArray.data_append, Array.toList_append]
      have hW1 : W1.data.toList = runL (xs ++ [x]) := by
        rw [runL_app, ← HW.out, ← eW1, ByteArray.data_append, Array.toList_append, eL]
        simp [runL]
      have hS2s : S2.size ≤ 101 * (j + 1) := by omega
      have hW1s : W1.size ≤ 201 * (j + 1) := by omega
      have HX := Lib.hid (And.intro c7 (And.intro hS2 (And.intro hW1 hmem)))
      clear c7 hS2 hW1 hmem eS1 eS2 eW1 z1 z2 z3 hLs eL hlx hxs ex ez hbw hzl hml
      go_wp2_with fail
      refine HX.out.1.mono ?_
      rintro e w5 ⟨rfl, hb5⟩
      have hb6 := hb.trans (hb5.mono hb.size)
      go_wp2_with fail
      refine (num_any2 _ _).mono ?_
      rintro e w7 ⟨rfl, rfl⟩
      go_wp2
      go_roundw
      case rel => exact ⟨j + 1, S2, W1, xs ++ [x], rfl, rfl, by go_num, by omega, by omega, hS2s, hW1s, Lib.hid (by rw [List.length_append, ← HJ.out]; rfl), Lib.hid (fun y hy => by
        rcases List.mem_append.1 hy with h | h
        · exact HM.out y h
        · rw [List.mem_singleton.1 h]; exact HX.out.2.2.2), Lib.hid HX.out.2.1, Lib.hid HX.out.2.2.1, hb6⟩
      case measure => simp [intOf]; omega
    · have hbw := HB.out.1.trans (hb.mono HB.out.1.size)
      have c7 := run_any S wr (HC.out.2.1.below hbw)
      have hr := many_run xs HM.out (by rw [← HJ.out]; exact hj30) S HS.out
      rw [hr, show runE S = 0 from by rw [runE, if_neg (by omega)], ← HW.out, show (⟨W.data.toList.toArray⟩ : ByteArray) = W from ba_ext3 rfl] at c7
      have H7 := Lib.hid (And.intro c7 hbw)
      have htest : (¬ (j : Int) < (n : Int)) ∨ ((j : Int) < (n : Int) ∧ ¬ (j : Int) < 30) := by omega
      clear c7 hbw hr hlt
      rcases htest with g1 | ⟨g1, g2⟩
      all_goals
        go_wp2_with fail
        refine H7.out.1.mono ?_
        rintro e w5 ⟨rfl, hb5⟩
        go_wp2_with fail
        refine (num_any2 _ _).mono ?_
        rintro e w7 ⟨rfl, rfl⟩
        go_wp2
        go_ret
        exact ⟨rfl, H7.out.2.trans (hb5.mono H7.out.2.size)⟩
end Go.Proofs.YtmhbkilpllgchaaGreatDoor
