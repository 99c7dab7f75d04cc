/- The walk of TagForms. -/
import Derived.Test.YtmhbkilpllgchaaTagE
namespace Go.Proofs.Ytmhbkilpllgchaa
open Go.RowKit BigFrame
set_option linter.unusedVariables false
set_option linter.unusedSimpArgs false

theorem num_any3 (n : Int) (w : World) : Calls Try.prog 39 #[.int .i64 n] w fun e w' => e = .returned (.int .i64 n) ∧ w = w' := (num_any n w).mono fun _ _ h => ⟨h.1, h.2.symm⟩
theorem and_7 (x : Int) : 0 ≤ bits .and .i64 x 7 ∧ bits .and .i64 x 7 ≤ 7 := by
  have h : bits .and .i64 x 7 = IntKind.i64.wrap ((BitVec.ofInt 64 x &&& BitVec.ofInt 64 7).toNat : Int) := rfl
  have h2 : (BitVec.ofInt 64 x &&& BitVec.ofInt 64 7).toNat ≤ 7 := by
    rw [BitVec.toNat_and]
    exact Nat.le_trans Nat.and_le_right (by decide)
  rw [h, IntKind.wrap_i64]
  omega

set_option maxRecDepth 100000 in
set_option maxHeartbeats 20000000 in
theorem forms_any (t size : Int) (w : World) (ht1 : -9223372036854775808 ≤ t) (ht2 : t ≤ 9223372036854775807) (hs1 : -9223372036854775808 ≤ size) (hs2 : size ≤ 9223372036854775807) :
    Calls Try.prog 9 #[.int .i64 t, .int .i64 size] w fun e w' => e = .returned (.bool true) ∧ Below w.heap.size w w' := by
  obtain ⟨i0, hi0, hz0, hz1, hz2⟩ := info_parts info5
  -- the first tag
  obtain ⟨H1, eH1⟩ : ∃ H, H = tagH t [⟨#[97]⟩] := ⟨_, rfl⟩
  obtain ⟨E1, eE1⟩ : ∃ E, E = tagE t [⟨#[97]⟩] := ⟨_, rfl⟩
  have hH1 : H1.length = 32 := by rw [eH1, tagH_length]
  have hok : tagOk t [⟨#[97]⟩] = (decide (0 ≤ t) && decide (t ≤ 4)) := by
    have : total [(⟨#[97]⟩ : ByteArray)] = 1 := rfl
    rw [tagOk, this, decide_eq_true (p := 1 ≤ 65536) (by omega), Bool.and_true]
  have hE1 : E1 = if 0 ≤ t ∧ t ≤ 4 then 0 else 200 := by
    rw [eE1, tagE, hok]
    by_cases h1 : 0 ≤ t <;> by_cases h2 : t ≤ 4 <;> simp [h1, h2]
  -- the second one: of so many zeros
  obtain ⟨y, hy⟩ : ∃ y : Nat, bits .and .i64 size 7 = (y : Int) ∧ y ≤ 7 := by
    have := and_7 size
    exact ⟨(bits .and .i64 size 7).toNat, by omega, by omega⟩
  obtain ⟨hy, hy7⟩ := hy
  obtain ⟨N, eN⟩ : ∃ N, N = 65531 + y := ⟨_, rfl⟩
  obtain ⟨Z, eZ⟩ : ∃ Z : List UInt8, Z = List.replicate N 0 := ⟨_, rfl⟩
  have lZ : Z.length = N := by rw [eZ, List.length_replicate]
  obtain ⟨Zs, hZs⟩ : ∃ Zs : ByteArray, Zs = ⟨Z.toArray⟩ := ⟨_, rfl⟩
  have hZss : Zs.size = N := by rw [hZs]; simp [ByteArray.size, lZ]
  obtain ⟨H2, eH2⟩ : ∃ H, H = tagH 3 [Zs, ⟨#[97, 98]⟩] := ⟨_, rfl⟩
  obtain ⟨E2, eE2⟩ : ∃ E, E = tagE 3 [Zs, ⟨#[97, 98]⟩] := ⟨_, rfl⟩
  have hH2 : H2.length = 32 := by rw [eH2, tagH_length]
  have htot : total [Zs, (⟨#[97, 98]⟩ : ByteArray)] = N + 2 := by
    have : total [Zs, (⟨#[97, 98]⟩ : ByteArray)] = Zs.size + 2 := rfl
    rw [this, hZss]
  have hE2 : E2 = if 65533 + y ≤ 65536 then 0 else 200 := by
    rw [eE2, tagE, tagOk, htot, eN]
    by_cases h : 65533 + y ≤ 65536
    · rw [if_pos h, decide_eq_true (p := 65531 + y + 2 ≤ 65536) (by omega)]; rfl
    · rw [if_neg h, decide_eq_false (p := 65531 + y + 2 ≤ 65536) (by omega)]; rfl
  have c1 : ∀ (w : World) (M : Nat), M = w.heap.size → Calls Try.prog 41 #[.int .i64 t, .slice (some ⟨M, 0, none⟩) 1 1] (w.alloc (.cells #[.string ⟨#[97]⟩] 9)) fun e w' => e = .returned (.tuple #[.agg (bcells H1), .int .i64 E1]) ∧ Below w.heap.size w w' := fun w M hM => by
    subst hM
    have := tag_any t (some ⟨w.heap.size, 0, none⟩) [⟨#[97]⟩] 1 (w.alloc (.cells #[.string ⟨#[97]⟩] 9)) (by decide) (strs_new _ (Blk.new w 9 _)) (by decide)
    rw [tagT, ← eH1, ← eE1] at this
    exact this.mono fun e w' h => ⟨h.1, ((Below.refl _ _).alloc (Nat.le_refl _) _).trans (h.2.mono (by simp))⟩
  have c2 : ∀ (w : World) (M : Nat), M = w.heap.size → Calls Try.prog 41 #[.int .i64 3, .slice (some ⟨M, 0, none⟩) 2 2] (w.alloc (.cells #[.string Zs, .string ⟨#[97, 98]⟩] 9)) fun e w' => e = .returned (.tuple #[.agg (bcells H2), .int .i64 E2]) ∧ Below w.heap.size w w' := fun w M hM => by
    subst hM
    have := tag_any 3 (some ⟨w.heap.size, 0, none⟩) [Zs, ⟨#[97, 98]⟩] 2 (w.alloc (.cells #[.string Zs, .string ⟨#[97, 98]⟩] 9)) (by simp) (strs_new _ (Blk.new w 9 _)) (fun j hj => by
      have : j = 0 ∨ j = 1 := by simp at hj; omega
      rcases this with rfl | rfl
      · show Zs.size ≤ _; omega
      · show (2 : Nat) ≤ _; omega)
    rw [tagT, ← eH2, ← eE2] at this
    exact this.mono fun e w' h => ⟨h.1, ((Below.refl _ _).alloc (Nat.le_refl _) _).trans (h.2.mono (by simp))⟩
  have hNi : (N : Int) = 65531 + (y : Int) := by omega
  have C := Lib.hid (And.intro c1 (And.intro c2 (And.intro hH1 (And.intro hH2 (And.intro hE1 hE2)))))
  have HZ := Lib.hid (And.intro eZ (And.intro lZ (And.intro hZs (And.intro eN hNi))))
  have hcv : ∀ (w' : World) (g : Nat), Blk w' g 5 ((List.replicate N (0 : UInt8)).map B).toArray → (convert 35 9 (.slice (some ⟨g, 0, none⟩) N N)).run Try.prog w' = .ok (.string Zs) w' := fun w' g hb => by
    have := run_str w' g N (List.replicate N 0) hb
    rw [List.length_replicate] at this
    rw [HZ.out.2.2.1, HZ.out.1]
    exact this
  have HCV := Lib.hid hcv
  have hcase : (t < 0 ∧ decide (0 ≤ t) = false ∧ E1 = 200) ∨ (0 ≤ t ∧ 4 < t ∧ decide (0 ≤ t) = true ∧ decide (t ≤ 4) = false ∧ E1 = 200) ∨ (0 ≤ t ∧ t ≤ 4 ∧ decide (0 ≤ t) = true ∧ decide (t ≤ 4) = true ∧ E1 = 0) := by
    rw [hE1]
    by_cases h1 : 0 ≤ t
    · by_cases h2 : t ≤ 4
      · rw [if_pos ⟨h1, h2⟩]; exact .inr (.inr ⟨h1, h2, decide_eq_true h1, decide_eq_true h2, rfl⟩)
      · rw [if_neg (fun h => h2 h.2)]; exact .inr (.inl ⟨h1, by omega, decide_eq_true h1, decide_eq_false h2, rfl⟩)
    · rw [if_neg (fun h => h1 h.1)]; exact .inl ⟨by omega, decide_eq_false h1, rfl⟩
  have hcase2 : (decide ((65533 : Int) + (y : Int) ≤ 65536) = true ∧ E2 = 0) ∨ (decide ((65533 : Int) + (y : Int) ≤ 65536) = false ∧ E2 = 200) := by
    rw [hE2]
    by_cases h1 : 65533 + y ≤ 65536
    · rw [if_pos h1]; exact .inl ⟨decide_eq_true (by omega), rfl⟩
    · rw [if_neg h1]; exact .inr ⟨decide_eq_false (by omega), rfl⟩
  have hN2 : N ≤ 140737488355328 := by omega
  clear hcv c1 c2 hH1 hH2 hE1 hE2 eZ lZ hZs hZss eN eH1 eE1 eH2 eE2 hok htot hNi
  rcases hcase with ⟨h1, g1, rfl⟩ | ⟨h1, h1', g1, g2, rfl⟩ | ⟨h1, h1', g1, g2, rfl⟩ <;> rcases hcase2 with ⟨h2, rfl⟩ | ⟨h2, rfl⟩
  all_goals
    go_enter Try.func9, Try.ntmps9
    go_wp2_with fail
    refine (awake2_any w).mono ?_
    rintro e w1 ⟨rfl, hb1⟩
    have hs1' := hb1.size
    go_wp2_with fail
    refine (C.out.1 w1 _ rfl).mono ?_
    rintro e w2 ⟨rfl, hb2⟩
    have hbw2 := hb1.trans (hb2.mono hs1')
    have hs2' := hbw2.size
    have hA0 : Blk (w2.alloc (.cells z32 29)) w2.heap.size 29 z32 := Blk.new _ _ _
    have hb3 : Below w.heap.size w ((w2.alloc (.cells z32 29)).setRow w2.heap.size (bcells H1)) := below_setRow (hbw2.alloc hs2' _) hs2' _
    obtain ⟨w3, e3⟩ : ∃ w3, w3 = (w2.alloc (.cells z32 29)).setRow w2.heap.size (bcells H1) := ⟨_, rfl⟩
    rw [← e3] at hb3
    have E3 := Lib.hid e3
    have hs3' := hb3.size
    obtain ⟨X, eX⟩ : ∃ X, X = w3.heap.size := ⟨_, rfl⟩
    have EX := Lib.hid eX.symm
    have hXs : w.heap.size ≤ X := by omega
    clear e3 eX hb1 hb2 hbw2
    go_wp2_with (first
      | (refine wpList_alN (d := 5) z32 zero29 w2.heap.size rfl (wpList_st_row w2.heap.size (bcells H1) rfl rfl 29 z32 hA0 (by rw [size29, bcells_size, C.out.2.2.1]) (by rw [bcells_size, C.out.2.2.1]; rfl) (bcells_one _) ?_); simp only [List.setIfInBounds_toArray, List.set_cons_succ, List.set_cons_zero]; rw [← E3.out])
      | (refine wpList_mk X N _ (by have := HZ.out.2.2.2.2; omega) hN2 EX.out rfl rfl hi0 hz0 hz1 hz2 ?_; intro wy hY0 hby hsy; have hcv := HCV.out wy X hY0; have HBY := Lib.hid (And.intro hby hsy); clear hby hsy hY0; simp only [List.setIfInBounds_toArray, List.set_cons_succ, List.set_cons_zero]))
    refine (C.out.2.1 wy _ rfl).mono ?_
    rintro e w4 ⟨rfl, hb4⟩
    have hby := HBY.out.1
    have hbw4 : Below w.heap.size w w4 := (hb3.trans (hby.mono hXs)).trans (hb4.mono (Nat.le_trans hXs (Nat.le_trans (Nat.le_of_eq EX.out.symm) hby.size)))
    have hs4' := hbw4.size
    have hD0 : Blk (w4.alloc (.cells z32 29)) w4.heap.size 29 z32 := Blk.new _ _ _
    have hb5 : Below w.heap.size w ((w4.alloc (.cells z32 29)).setRow w4.heap.size (bcells H2)) := below_setRow (hbw4.alloc hs4' _) hs4' _
    obtain ⟨w5, e5⟩ : ∃ w5, w5 = (w4.alloc (.cells z32 29)).setRow w4.heap.size (bcells H2) := ⟨_, rfl⟩
    rw [← e5] at hb5
    have E5 := Lib.hid e5
    clear e5 hby hb4 hbw4 hb3 hcv
    go_wp2_with (first
      | (refine wpList_alN (d := 9) z32 zero29 w4.heap.size rfl (wpList_st_row w4.heap.size (bcells H2) rfl rfl 29 z32 hD0 (by rw [size29, bcells_size, C.out.2.2.2.1]) (by rw [bcells_size, C.out.2.2.2.1]; rfl) (bcells_one _) ?_); simp only [List.setIfInBounds_toArray, List.set_cons_succ, List.set_cons_zero]; rw [← E5.out])
      | (go_at_call 39; (first | refine (num_any3 0 _).mono ?_ | refine (num_any3 200 _).mono ?_); rintro e w' ⟨rfl, rfl⟩))
    go_ret
    exact ⟨rfl, hb5⟩
end Go.Proofs.Ytmhbkilpllgchaa
