/- The walk of ConsoleBegins. -/
import Derived.Test.YtmhbkilpllgchaaGreatDoorMgCwx
namespace Go.Proofs.YtmhbkilpllgchaaGreatDoor
open Go.RowKit BigFrame
set_option linter.unusedVariables false
set_option linter.unusedSimpArgs false

theorem runF_short (s : ByteArray) : (runF s).length ≤ 201 * 65537 := by
  rw [runF]
  split
  · simp
  · have h1 := runL_short (lines s)
    have h2 := (lines_short s).2
    omega

set_option maxRecDepth 100000 in
set_option maxHeartbeats 8000000 in
theorem begins_big (f r : ByteArray) (w : World) (hL : Laid w) (hf : f.size ≤ 140737488351232) (hr : r.size ≤ 140737488351232) (hbig : 65536 < f.size + 1 + r.size) : Calls Tryz.prog 4 #[.string f, .string r] w fun e w' => e = .returned (.bool true) ∧ Below w.heap.size w w' := by
  have c9 := awake_any w hL
  obtain ⟨a, ea⟩ : ∃ a, f ++ ⟨#[10]⟩ = a := ⟨_, rfl⟩
  obtain ⟨b, eb⟩ : ∃ b, a ++ r = b := ⟨_, rfl⟩
  have sa : a.size = f.size + 1 := by rw [← ea, ByteArray.size_append]; rfl
  have sb : b.size = f.size + 1 + r.size := by rw [← eb, ByteArray.size_append, sa]
  have hadd1 : ∀ w', (Op.stringOp .add f ⟨#[10]⟩).run Tryz.prog w' = .ok (.string a) w' := fun w' => add_texts w' _ _ (by show f.size + 1 ≤ _; omega) ea
  have hadd2 : ∀ w', (Op.stringOp .add a r).run Tryz.prog w' = .ok (.string b) w' := fun w' => add_texts w' _ _ (by omega) eb
  have ca := fun w' h => run_any a w' h
  have cb := fun w' h => run_any b w' h
  rw [runF, if_pos (by omega), runE, if_pos (by omega)] at cb
  obtain ⟨A, eA⟩ : ∃ A : ByteArray, A = ⟨(runF a).toArray⟩ := ⟨_, rfl⟩
  obtain ⟨E, eE⟩ : ∃ E, E = runE a := ⟨_, rfl⟩
  rw [← eA, ← eE] at ca
  have hb1 : (65536 : Int) < (b.size : Int) := by omega
  have HC := Lib.hid (And.intro c9 (And.intro ca (And.intro cb hL)))
  clear c9 ca cb hL eA eE sa sb ea eb hf hr hbig
  go_enter Tryz.func4, Tryz.ntmps4
  go_wp2_with fail
  refine HC.out.1.mono ?_
  rintro e w1 ⟨rfl, hb1⟩
  have HL1 := Lib.hid (HC.out.2.2.2.below hb1)
  go_wp2_with fail
  refine (HC.out.2.1 _ HL1.out).mono ?_
  rintro e w2 ⟨rfl, hb2⟩
  have hbw2 := hb1.trans (hb2.mono hb1.size)
  have HL2 := Lib.hid (HL1.out.below hb2)
  go_wp2_with fail
  refine (HC.out.2.2.1 _ HL2.out).mono ?_
  rintro e w3 ⟨rfl, hb3⟩
  have hbw3 := hbw2.trans (hb3.mono hbw2.size)
  go_wp2_with fail
  refine (num_any2 _ _).mono ?_
  rintro e w4 ⟨rfl, rfl⟩
  go_wp2_with fail
  refine (num_any2 _ _).mono ?_
  rintro e w4 ⟨rfl, rfl⟩
  go_wp2
  go_ret
  exact ⟨rfl, hbw3⟩

set_option maxRecDepth 100000 in
set_option maxHeartbeats 8000000 in
theorem begins_small (f r : ByteArray) (w : World) (hL : Laid w) (hsm : f.size + 1 + r.size ≤ 65536) : Calls Tryz.prog 4 #[.string f, .string r] w fun e w' => e = .returned (.bool true) ∧ Below w.heap.size w w' := by
  have c9 := awake_any w hL
  obtain ⟨t, ht⟩ := begins f r (by rw [ByteArray.size_append, ByteArray.size_append]; exact hsm)
  obtain ⟨a, ea⟩ : ∃ a, f ++ ⟨#[10]⟩ = a := ⟨_, rfl⟩
  rw [ea] at ht
  obtain ⟨b, eb⟩ : ∃ b, a ++ r = b := ⟨_, rfl⟩
  rw [eb] at ht
  have sa : a.size = f.size + 1 := by rw [← ea, ByteArray.size_append]; rfl
  have sb : b.size = f.size + 1 + r.size := by rw [← eb, ByteArray.size_append, sa]
  have hadd1 : ∀ w', (Op.stringOp .add f ⟨#[10]⟩).run Tryz.prog w' = .ok (.string a) w' := fun w' => add_texts w' _ _ (by show f.size + 1 ≤ _; omega) ea
  have hadd2 : ∀ w', (Op.stringOp .add a r).run Tryz.prog w' = .ok (.string b) w' := fun w' => add_texts w' _ _ (by omega) eb
  have ca := fun w' h => run_any a w' h
  have cb := fun w' h => run_any b w' h
  rw [show runE a = 0 from by rw [runE, if_neg (by omega)]] at ca
  rw [show runE b = 0 from by rw [runE, if_neg (by omega)], ht] at cb
  have hlb := runF_short b
  rw [ht, List.length_append] at hlb
  obtain ⟨A, eA⟩ : ∃ A : ByteArray, A = ⟨(runF a).toArray⟩ := ⟨_, rfl⟩
  obtain ⟨T, eT⟩ : ∃ T : ByteArray, T = ⟨(runF a ++ t).toArray⟩ := ⟨_, rfl⟩
  rw [← eA] at ca
  rw [← eT] at cb
  have zA : A.size = (runF a).length := by rw [eA]; exact List.size_toArray
  have zT : T.size = (runF a).length + t.length := by rw [eT, ← List.length_append]; exact List.size_toArray
  have hAT : A.size ≤ T.size := by omega
  have hAT' : (A.size : Int) ≤ (T.size : Int) := by omega
  have hT : T.size ≤ 13172937 := by omega
  have hT' : (T.size : Int) ≤ 13172937 := by omega
  have hx : T.extract 0 A.size = A := by
    apply ba_ext3
    rw [ByteArray.data_extract, Array.toList_extract, List.extract_eq_take_drop, zA, eA, eT]
    simp
  have HC := Lib.hid (And.intro c9 (And.intro ca (And.intro cb hL)))
  clear c9 ca cb hL eA eT zA zT hlb ht sa sb ea eb hsm
  go_enter Tryz.func4, Tryz.ntmps4
  go_wp2_with fail
  refine HC.out.1.mono ?_
  rintro e w1 ⟨rfl, hb1⟩
  have HL1 := Lib.hid (HC.out.2.2.2.below hb1)
  go_wp2_with fail
  refine (HC.out.2.1 _ HL1.out).mono ?_
  rintro e w2 ⟨rfl, hb2⟩
  have hbw2 := hb1.trans (hb2.mono hb1.size)
  have HL2 := Lib.hid (HL1.out.below hb2)
  go_wp2_with fail
  refine (HC.out.2.2.1 _ HL2.out).mono ?_
  rintro e w3 ⟨rfl, hb3⟩
  have hbw3 := hbw2.trans (hb3.mono hbw2.size)
  go_wp2_with fail
  refine (num_any2 _ _).mono ?_
  rintro e w4 ⟨rfl, rfl⟩
  go_wp2_with fail
  refine (num_any2 _ _).mono ?_
  rintro e w4 ⟨rfl, rfl⟩
  go_wp2
  go_ret
  exact ⟨rfl, hbw3⟩

theorem begins_any (f r : ByteArray) (w : World) (hL : Laid w) (hf : f.size ≤ 140737488351232) (hr : r.size ≤ 140737488351232) : Calls Tryz.prog 4 #[.string f, .string r] w fun e w' => e = .returned (.bool true) ∧ Below w.heap.size w w' := by
  by_cases h : 65536 < f.size + 1 + r.size
  · exact begins_big f r w hL hf hr h
  · exact begins_small f r w hL (by omega)
end Go.Proofs.YtmhbkilpllgchaaGreatDoor
