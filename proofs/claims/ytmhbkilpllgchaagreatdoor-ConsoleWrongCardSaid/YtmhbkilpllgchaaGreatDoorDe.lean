/- The walk of ConsoleWrong. -/
import Derived.Test.YtmhbkilpllgchaaGreatDoorMgCwx
namespace Go.Proofs.YtmhbkilpllgchaaGreatDoor
open Go.RowKit BigFrame
set_option linter.unusedVariables false
set_option linter.unusedSimpArgs false

set_option maxRecDepth 100000 in
set_option maxHeartbeats 8000000 in
theorem cwrong_any (which : Int) (w : World) (hL : Laid w) (h1 : -9223372036854775808 ≤ which) (h2 : which ≤ 9223372036854775807) : Calls Tryz.prog 5 #[.int .i64 which] w fun e w' => e = .returned (.bool true) ∧ Below w.heap.size w w' := by
  obtain ⟨m, hm, hm13⟩ : ∃ m : Nat, wrap64 ((IntKind.u64.wrap which).tmod 13) = (m : Int) ∧ m < 13 := by
    rw [IntKind.wrap_u64, Int.tmod_eq_emod_of_nonneg (Int.emod_nonneg _ (by omega))]
    have h1 := Int.emod_nonneg (which % 18446744073709551616) (show (13 : Int) ≠ 0 by omega)
    have h2 := Int.emod_lt_of_pos (which % 18446744073709551616) (show (0 : Int) < 13 by omega)
    refine ⟨(which % 18446744073709551616 % 13).toNat, ?_, by omega⟩
    unfold wrap64
    omega
  have hml : m < wrongs.length := hm13
  obtain ⟨x, ex⟩ : ∃ x, x = wrongs[m] := ⟨_, rfl⟩
  have hmem : x ∈ wrongs := by rw [ex]; exact List.getElem_mem hml
  obtain ⟨hxs, -⟩ := wrong_short x hmem
  obtain ⟨a, ea⟩ : ∃ a, (⟨#[115, 104, 97, 32, 45, 10]⟩ : ByteArray) ++ x = a := ⟨_, rfl⟩
  have sa : a.size = 6 + x.size := by rw [← ea, ByteArray.size_append]; rfl
  have hadd0 : ∀ w', (Op.stringOp .add ⟨#[115, 104, 97, 32, 45, 10]⟩ x).run Tryz.prog w' = .ok (.string a) w' := fun w' => add_texts w' _ _ (by show 6 + x.size ≤ _; omega) ea
  have c7 := fun w' h => run_any a w' h
  have hrun : runF a = ((hexL (sha []) ++ [10]) ++ [101, 114, 114, 111, 114, 32, 50, 55, 48, 48]) ++ [10] := by rw [← ea, ← err2700]; exact wrong_run x hmem
  rw [show runE a = 0 from by rw [runE, if_neg (by omega)], hrun] at c7
  obtain ⟨X, eX⟩ : ∃ X, X = sha [] := ⟨_, rfl⟩
  have hX : X.length = 32 := by rw [eX]; exact sha_length _
  have c13 : ∀ w', Calls Tryz.prog 13 #[.string ⟨#[]⟩] w' fun e w'' => e = .returned (.agg (bcells X)) ∧ Below w'.heap.size w' w'' := fun w' => by rw [eX]; exact refsha_any ⟨#[]⟩ w' (by decide)
  rw [← eX] at c7
  have cX := hexl_any X hX
  have lX : (hexL X).length = 64 := by rw [hexL_length, hX]
  obtain ⟨XH, eXH⟩ : ∃ S : ByteArray, S = ⟨(hexL X).toArray⟩ := ⟨_, rfl⟩
  have sX : XH.size = 64 := by rw [eXH, size_S, lX]
  obtain ⟨U1, eU1⟩ : ∃ U, XH ++ ⟨#[10]⟩ = U := ⟨_, rfl⟩
  obtain ⟨U2, eU2⟩ : ∃ U, U1 ++ ⟨#[101, 114, 114, 111, 114, 32, 50, 55, 48, 48]⟩ = U := ⟨_, rfl⟩
  obtain ⟨U3, eU3⟩ : ∃ U, U2 ++ ⟨#[10]⟩ = U := ⟨_, rfl⟩
  have s1 : U1.size = 65 := by rw [← eU1, ByteArray.size_append, sX]; rfl
  have s2 : U2.size = 75 := by rw [← eU2, ByteArray.size_append, s1]; rfl
  have hadd1 : ∀ w', (Op.stringOp .add XH ⟨#[10]⟩).run Tryz.prog w' = .ok (.string U1) w' := fun w' => add_texts w' _ _ (by rw [sX]; decide) eU1
  have hadd2 : ∀ w', (Op.stringOp .add U1 ⟨#[101, 114, 114, 111, 114, 32, 50, 55, 48, 48]⟩).run Tryz.prog w' = .ok (.string U2) w' := fun w' => add_texts w' _ _ (by rw [s1]; decide) eU2
  have hadd3 : ∀ w', (Op.stringOp .add U2 ⟨#[10]⟩).run Tryz.prog w' = .ok (.string U3) w' := fun w' => add_texts w' _ _ (by rw [s2]; decide) eU3
  have e3 : (⟨(((hexL X ++ [10]) ++ [101, 114, 114, 111, 114, 32, 50, 55, 48, 48]) ++ [10]).toArray⟩ : ByteArray) = U3 := by
    apply ba_ext3
    rw [← eU3, ← eU2, ← eU1, ByteArray.data_append, Array.toList_append, ByteArray.data_append, Array.toList_append, ByteArray.data_append, Array.toList_append, eXH]
  rw [e3] at c7
  rw [← eXH] at cX
  have HC := Lib.hid (And.intro (awake_any w hL) (And.intro c7 (And.intro c13 (And.intro cX (And.intro hL ex)))))
  clear c7 c13 cX hX eX lX eXH sX eU1 eU2 eU3 s1 s2 e3 hL ex hmem ea sa hxs
  go_enter Tryz.func5, Tryz.ntmps5
  go_wp2_with fail
  refine HC.out.1.mono ?_
  rintro e w1 ⟨rfl, hb1⟩
  have hbA : Below w.heap.size w (w1.alloc (.cells (wrongs.map SV).toArray 9)) := hb1.alloc hb1.size _
  have hcx : (w1.alloc (.cells (wrongs.map SV).toArray 9)).cell? ⟨w1.heap.size, m, none⟩ = some (.string x) := by
    rw [(Blk.new w1 9 _).cell, List.getElem?_toArray, List.getElem?_map]
    rw [List.getElem?_eq_getElem hml, HC.out.2.2.2.2.2]
    rfl
  have hLA : Laid (w1.alloc (.cells (wrongs.map SV).toArray 9)) := HC.out.2.2.2.2.1.below hbA
  have c7 := HC.out.2.1 _ hLA
  clear hLA
  simp only [wrongs, List.map_cons, List.map_nil, SV] at hbA hcx c7
  have H7 := Lib.hid c7
  clear c7
  go_wp2_with fail
  refine H7.out.mono ?_
  rintro e w2 ⟨rfl, hb2⟩
  have hbw2 := hbA.trans (hb2.mono hbA.size)
  clear hcx hbA hb1 hb2 H7
  go_wp2_with fail
  refine (num_any2 _ _).mono ?_
  rintro e w3 ⟨rfl, rfl⟩
  go_wp2_with fail
  refine (HC.out.2.2.1 _).mono ?_
  rintro e w4 ⟨rfl, hb4⟩
  have hbw4 := hbw2.trans (hb4.mono hbw2.size)
  go_wp2_with fail
  refine (HC.out.2.2.2.1 _).mono ?_
  rintro e w5 ⟨rfl, hb5⟩
  have hbw5 := hbw4.trans (hb5.mono hbw4.size)
  go_wp2
  go_ret
  exact ⟨rfl, hbw5⟩
end Go.Proofs.YtmhbkilpllgchaaGreatDoor
