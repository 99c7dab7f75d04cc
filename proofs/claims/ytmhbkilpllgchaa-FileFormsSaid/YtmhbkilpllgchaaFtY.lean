/- The walk of FileForms. -/
import Derived.Test.YtmhbkilpllgchaaFtW
namespace Go.Proofs.Ytmhbkilpllgchaa
open Go.RowKit BigFrame
set_option linter.unusedVariables false
set_option linter.unusedSimpArgs false

theorem and_mask (x : Int) (m : Nat) (hm : m < 9223372036854775808) : ∃ k : Nat, bits .and .i64 x (m : Int) = (k : Int) ∧ k ≤ m := by
  have h : bits .and .i64 x (m : Int) = IntKind.i64.wrap ((BitVec.ofInt 64 x &&& BitVec.ofInt 64 (m : Int)).toNat : Int) := rfl
  have h2 : (BitVec.ofInt 64 x &&& BitVec.ofInt 64 (m : Int)).toNat ≤ m := by
    rw [BitVec.toNat_and]
    refine Nat.le_trans Nat.and_le_right ?_
    rw [BitVec.toNat_ofInt]
    omega
  refine ⟨(BitVec.ofInt 64 x &&& BitVec.ofInt 64 (m : Int)).toNat, ?_, h2⟩
  rw [h, IntKind.wrap_i64]
  omega
theorem andq_4095 (x : Int) : ∃ k : Nat, bits .and .i64 x 4095 = (k : Int) ∧ k ≤ 4095 := and_mask x 4095 (by decide)
theorem andq_1023 (x : Int) : ∃ k : Nat, bits .and .i64 x 1023 = (k : Int) ∧ k ≤ 1023 := and_mask x 1023 (by decide)
theorem andq_255 (x : Int) : ∃ k : Nat, bits .and .i64 x 255 = (k : Int) ∧ k ≤ 255 := and_mask x 255 (by decide)

set_option maxRecDepth 100000 in
set_option maxHeartbeats 8000000 in
theorem fileforms_any (a b : Int) (w : World) (ha1 : -9223372036854775808 ≤ a) (ha2 : a ≤ 9223372036854775807) (hb1 : -9223372036854775808 ≤ b) (hb2 : b ≤ 9223372036854775807) :
    Calls Try.prog 20 #[.int .i64 a, .int .i64 b] w fun e w' => e = .returned (.bool true) ∧ Below w.heap.size w w' := by
  obtain ⟨i0, hi0, hz0, hz1, hz2⟩ := info_parts info5
  obtain ⟨k, hk, hkb⟩ := andq_1023 a
  obtain ⟨d, hd, hdb⟩ := andq_255 b
  obtain ⟨Z, eZ⟩ : ∃ Z : List UInt8, Z = List.replicate k 0 := ⟨_, rfl⟩
  have hZl : Z.length = k := by rw [eZ, List.length_replicate]
  obtain ⟨Z2, eZ2⟩ : ∃ Z : List UInt8, Z = List.replicate (4097 + d) 0 := ⟨_, rfl⟩
  have hZ2l : Z2.length = 4097 + d := by rw [eZ2, List.length_replicate]
  obtain ⟨A, eA⟩ : ∃ A, A = rootH Z := ⟨_, rfl⟩
  have hAl : A.length = 32 := by rw [eA]; exact objH_length _
  obtain ⟨OB, eOB⟩ : ∃ O, O = buildO Z := ⟨_, rfl⟩
  have hOn : OB.length ≤ 73 := by rw [eOB]; exact buildO_few Z (by omega)
  have hOz : ∀ s ∈ OB, s.size ≤ 140737488351232 := fun s hs => by
    rw [eOB] at hs
    have := buildO_ok (by omega) hs
    omega
  have c1 : ∀ w', Calls Try.prog 66 #[.string ⟨Z.toArray⟩] w' fun e w'' => ∃ p m c, e = .returned (.tuple #[.agg (bcells A), .slice p m c, .int .i64 0]) ∧ m = OB.length ∧ w''.ownsRow w'.heap.size 9 1 (.slice p m c) m (OB.map SV) ∧ Below w'.heap.size w' w'' := fun w' => by
    have := build_any ⟨Z.toArray⟩ w' (by rw [ba_list]; show Z.length ≤ _; omega)
    rw [eA, eOB]
    exact this
  have c2 : ∀ w' p n c z, n = OB.length → Strs w' p OB → (z < 0 ∨ 4096 < z) → Calls Try.prog 69 #[.agg (bcells A), .int .i64 z, .slice p n c] w' fun e w'' => ∃ s p n c, e = .returned (.tuple #[.string s, .slice p n c, .int .i64 1200]) ∧ Below w'.heap.size w' w'' := fun w' p n c z hn h hz => by
    refine (load_strs c hn (by omega) h hOz A hAl z (R := ⟨⟨#[]⟩, [], 1200⟩) (by rw [loadZ, if_pos hz])).mono ?_
    rintro e w'' ⟨p, n, c, rfl, _, _, hb⟩
    exact ⟨_, p, n, c, rfl, hb⟩
  have c3 : ∀ w' p n c z, n = OB.length → Strs w' p OB → z = ((k + 1 + d : Nat) : Int) → Calls Try.prog 69 #[.agg (bcells A), .int .i64 z, .slice p n c] w' fun e w'' => ∃ s p n c, e = .returned (.tuple #[.string s, .slice p n c, .int .i64 1200]) ∧ Below w'.heap.size w' w'' := fun w' p n c z hn h hz => by
    obtain ⟨R, eR⟩ : ∃ R, R = loadZ (readK OB) A z := ⟨_, rfl⟩
    have hE : R.er = 1200 := by
      rw [eR, loadZ, if_neg (by omega), eOB, eA, hz]
      exact zeros_other (by omega) eZ (by omega)
    refine (load_strs c hn (by omega) h hOz A hAl z eR.symm).mono ?_
    rintro e w'' ⟨p, n, c, rfl, _, _, hb⟩
    exact ⟨_, p, n, c, by rw [hE], hb⟩
  have c5 : ∀ w', Calls Try.prog 66 #[.string ⟨Z2.toArray⟩] w' fun e w'' => e = .returned (.tuple #[.agg (bcells zeros32), .slice none 0 0, .int .i64 1200]) ∧ Below w'.heap.size w' w'' := fun w' =>
    build_big _ w' (by rw [ba_list]; show _ < Z2.length; omega) (by rw [ba_list]; show Z2.length ≤ _; omega)
  have hzl : zeros32.length = 32 := by rw [zeros32, List.length_replicate]
  have C := Lib.hid (And.intro c1 (And.intro c2 (And.intro c3 c5)))
  have E := Lib.hid (And.intro hAl (And.intro hzl (And.intro eZ (And.intro hZl (And.intro eZ2 hZ2l)))))
  clear c1 c2 c3 c5 eA hAl eOB hOn hOz eZ hZl eZ2 hZ2l hzl
  go_enter Try.func20, Try.ntmps20
  go_wp2_with fail
  refine (awake12_any w).mono ?_
  rintro e w0 ⟨rfl, hb0⟩
  go_wp2_with (first
    | (refine wpList_mk (d := 28) w0.heap.size k _ rfl (by omega) rfl rfl rfl hi0 hz0 hz1 hz2 ?_; intro w1 hZ1 hb1 hs1; simp only [List.setIfInBounds_toArray, List.set_cons_succ, List.set_cons_zero])
    | (refine wpList_str (d := 29) w0.heap.size k k Z E.out.2.2.2.1 rfl (by rw [E.out.2.2.1]; exact hZ1) ?_; simp only [List.setIfInBounds_toArray, List.set_cons_succ, List.set_cons_zero]))
  refine (C.out.1 w1).mono ?_
  rintro e w2 ⟨p, m, c, rfl, hm, hR2, hb2⟩
  have hA0 : Blk (w2.alloc (.cells z32 29)) w2.heap.size 29 z32 := Blk.new _ _ _
  have hA1 : Blk ((w2.alloc (.cells z32 29)).setRow w2.heap.size (bcells A)) w2.heap.size 29 (bcells A) := hA0.row _
  have hbx : Below w2.heap.size w2 ((w2.alloc (.cells z32 29)).setRow w2.heap.size (bcells A)) := below_setRow ((Below.refl _ _).alloc (Nat.le_refl _) _) (Nat.le_refl _) _
  have hb02 : Below w.heap.size w w2 := hb0.trans ((hb1.trans (hb2.mono hb1.size)).mono hb0.size)
  have H2 := Lib.hid (And.intro (row_below hR2 hbx) (And.intro (hb02.trans (hbx.mono hb02.size)) hm))
  clear hb0 hb1 hb2 hbx hb02 hR2 hZ1 hs1 hm
  go_upto_region 5 with (refine wpList_alN (d := 6) z32 zero29 w2.heap.size rfl (wpList_st_row w2.heap.size (bcells A) rfl rfl 29 z32 hA0 (by rw [size29, bcells_size, E.out.1]) (by rw [bcells_size, E.out.1]; rfl) (bcells_one _) ?_); simp only [List.setIfInBounds_toArray, List.set_cons_succ, List.set_cons_zero])
  obtain ⟨w3, e3⟩ : ∃ w3, w3 = (w2.alloc (.cells z32 29)).setRow w2.heap.size (bcells A) := ⟨_, rfl⟩
  obtain ⟨G, eG⟩ : ∃ G, G = w2.heap.size := ⟨_, rfl⟩
  rw [← e3] at hA1 H2 ⊢
  rw [← eG] at hA1 ⊢
  clear e3 eG hA0
  go_wp2_with (refine wpList_ld_row (d := 38) G (bcells A) rfl 29 hA1 Try.underlying29 rfl (by rw [size29, bcells_size, E.out.1]) ?_; simp only [List.setIfInBounds_toArray, List.set_cons_succ, List.set_cons_zero])
  refine (C.out.2.1 w3 p m c _ H2.out.2.2 (strs_own H2.out.1) (by omega)).mono ?_
  rintro e w4 ⟨s4, p4, n4, c4, rfl, hb4⟩
  have hA4 := hA1.below hb4 hA1.lt
  have H4 := Lib.hid (And.intro (row_below H2.out.1 hb4) (And.intro (H2.out.2.1.trans (hb4.mono H2.out.2.1.size)) H2.out.2.2))
  clear hb4 hA1 H2
  go_wp2_with (refine wpList_ld_row (d := 47) G (bcells A) rfl 29 hA4 Try.underlying29 rfl (by rw [size29, bcells_size, E.out.1]) ?_; simp only [List.setIfInBounds_toArray, List.set_cons_succ, List.set_cons_zero])
  refine (C.out.2.1 w4 p m c _ H4.out.2.2 (strs_own H4.out.1) (by omega)).mono ?_
  rintro e w5 ⟨s5, p5, n5, c5, rfl, hb5⟩
  have hA5 := hA4.below hb5 hA4.lt
  have H5 := Lib.hid (And.intro (row_below H4.out.1 hb5) (And.intro (H4.out.2.1.trans (hb5.mono H4.out.2.1.size)) H4.out.2.2))
  clear hb5 hA4 H4
  go_wp2_with (refine wpList_ld_row (d := 56) G (bcells A) rfl 29 hA5 Try.underlying29 rfl (by rw [size29, bcells_size, E.out.1]) ?_; simp only [List.setIfInBounds_toArray, List.set_cons_succ, List.set_cons_zero])
  refine (C.out.2.2.1 w5 p m c _ H5.out.2.2 (strs_own H5.out.1) (by omega)).mono ?_
  rintro e w6 ⟨s6, p6, n6, c6, rfl, hb6⟩
  have hbw6 : Below w.heap.size w w6 := H5.out.2.1.trans (hb6.mono H5.out.2.1.size)
  clear hb6 hA5 H5
  go_upto_region 9 with fail
  go_wp2_with (first
    | (refine wpList_mk (d := 68) w6.heap.size (4097 + d) _ (by omega) (by omega) rfl rfl rfl hi0 hz0 hz1 hz2 ?_; intro w7 hZ7 hb7 hs7; simp only [List.setIfInBounds_toArray, List.set_cons_succ, List.set_cons_zero])
    | (refine wpList_str (d := 69) w6.heap.size (4097 + d) (4097 + d) Z2 E.out.2.2.2.2.2 rfl (by rw [E.out.2.2.2.2.1]; exact hZ7) ?_; simp only [List.setIfInBounds_toArray, List.set_cons_succ, List.set_cons_zero]))
  refine (C.out.2.2.2 w7).mono ?_
  rintro e w8 ⟨rfl, hb8⟩
  have hbw8 : Below w.heap.size w w8 := hbw6.trans ((hb7.trans (hb8.mono hb7.size)).mono hbw6.size)
  have hB0 : Blk (w8.alloc (.cells z32 29)) w8.heap.size 29 z32 := Blk.new _ _ _
  have hbx : Below w8.heap.size w8 ((w8.alloc (.cells z32 29)).setRow w8.heap.size (bcells zeros32)) := below_setRow ((Below.refl _ _).alloc (Nat.le_refl _) _) (Nat.le_refl _) _
  have H8 := Lib.hid (hbw8.trans (hbx.mono hbw8.size))
  clear hbw6 hb7 hb8 hbx hbw8 hZ7 hs7
  go_upto_region 10 with (refine wpList_alN (d := 19) z32 zero29 w8.heap.size rfl (wpList_st_row w8.heap.size (bcells zeros32) rfl rfl 29 z32 hB0 (by rw [size29, bcells_size, E.out.2.1]) (by rw [bcells_size, E.out.2.1]; rfl) (bcells_one _) ?_); simp only [List.setIfInBounds_toArray, List.set_cons_succ, List.set_cons_zero])
  obtain ⟨w9, e9⟩ : ∃ w9, w9 = (w8.alloc (.cells z32 29)).setRow w8.heap.size (bcells zeros32) := ⟨_, rfl⟩
  rw [← e9] at H8 ⊢
  clear e9 hB0
  go_wp2_with (go_at_call 39; refine (num_any2 _ _).mono ?_; rintro e w' ⟨rfl, rfl⟩)
  go_ret
  exact ⟨rfl, H8.out⟩
end Go.Proofs.Ytmhbkilpllgchaa
