/- awake of law 11. -/
import Derived.Test.YtmhbkilpllgchaaObjD
namespace Go.Proofs.Ytmhbkilpllgchaa
open Go.RowKit BigFrame
set_option linter.unusedVariables false
set_option linter.unusedSimpArgs false

theorem ab_cd : objH ⟨#[97, 98]⟩ ≠ objH ⟨#[99, 100]⟩ := by decide +kernel
theorem ab_x : objH ⟨#[120]⟩ ≠ objH ⟨#[97, 98]⟩ := by decide +kernel
theorem ab_0 : objH ⟨#[97, 98]⟩ ≠ zeros32 := by decide +kernel
theorem grown_below' {a b : World} {Bm B : Nat} (h : a.grownBy b (some Bm)) (hB : B ≤ Bm) (hl : B ≤ a.heap.size) : Below B a b :=
  ⟨h.os, h.tape, h.output, h.size, fun i hi => h.block i (by omega) (fun e => by injection e; omega)⟩

set_option maxRecDepth 100000 in
set_option maxHeartbeats 4000000 in
theorem awake11_any (w : World) : Calls Try.prog 55 #[] w fun e w' => e = .returned (.bool true) ∧ Below w.heap.size w w' := by
  obtain ⟨A, eA⟩ : ∃ A, A = objH ⟨#[97, 98]⟩ := ⟨_, rfl⟩
  have hAl : A.length = 32 := by rw [eA]; exact objH_length _
  have n1 : A ≠ objH ⟨#[99, 100]⟩ := by rw [eA]; exact ab_cd
  have n2 : objH ⟨#[120]⟩ ≠ A := by rw [eA]; exact ab_x
  have n3 : A ≠ zeros32 := by rw [eA]; exact ab_0
  have k1 : ¬ 4096 < (⟨#[97, 98]⟩ : ByteArray).size := by decide
  have k2 : ¬ 4096 < (⟨#[99, 100]⟩ : ByteArray).size := by decide
  have k3 : ¬ 4096 < (⟨#[120]⟩ : ByteArray).size := by decide
  have f1 : findL [(A, (⟨#[97, 98]⟩ : ByteArray))] A = some ⟨#[97, 98]⟩ := by rw [findL_cons, if_pos rfl]
  have p1 : ∀ {w' : World} {Bs Bm : Nat}, StoreAt w' Bs Bm 1 [] → Calls Try.prog 56 #[.pointer (some ⟨Bs, 0, none⟩), .string ⟨#[97, 98]⟩] w' fun e w'' => e = .returned (.tuple #[.agg (bcells A), .int .i64 0]) ∧ StoreAt w'' Bs Bm 1 [(A, ⟨#[97, 98]⟩)] ∧ w'.grownBy w'' (some Bm) := fun h => by
    have := put_any h ⟨#[97, 98]⟩ (by decide)
    unfold putH putE putK at this
    rw [if_neg k1, if_neg k1, if_neg k1, ← eA, findL_nil] at this
    simpa using this
  have p2 : ∀ {w' : World} {Bs Bm : Nat}, StoreAt w' Bs Bm 1 [(A, ⟨#[97, 98]⟩)] → Calls Try.prog 56 #[.pointer (some ⟨Bs, 0, none⟩), .string ⟨#[99, 100]⟩] w' fun e w'' => e = .returned (.tuple #[.agg (bcells zeros32), .int .i64 1102]) ∧ StoreAt w'' Bs Bm 1 [(A, ⟨#[97, 98]⟩)] ∧ w'.grownBy w'' (some Bm) := fun h => by
    have := put_any h ⟨#[99, 100]⟩ (by decide)
    unfold putH putE putK at this
    rw [if_neg k2, if_neg k2, if_neg k2, findL_cons, if_neg n1, findL_nil] at this
    simpa using this
  have g1 : ∀ {w' : World} {Bs Bm : Nat}, StoreAt w' Bs Bm 1 [(A, ⟨#[97, 98]⟩)] → Calls Try.prog 61 #[.pointer (some ⟨Bs, 0, none⟩), .agg (bcells A)] w' fun e w'' => e = .returned (.tuple #[.string ⟨#[97, 98]⟩, .int .i64 0]) ∧ Below w'.heap.size w' w'' := fun h => by
    have := oget_any h A hAl
    unfold getS getE at this
    rw [f1] at this
    exact this
  have g2 : ∀ {w' : World} {Bs Bm : Nat}, StoreAt w' Bs Bm 1 [(A, ⟨#[97, 98]⟩)] → Calls Try.prog 61 #[.pointer (some ⟨Bs, 0, none⟩), .agg z32] w' fun e w'' => e = .returned (.tuple #[.string ⟨#[]⟩, .int .i64 1101]) ∧ Below w'.heap.size w' w'' := fun h => by
    have := oget_any h zeros32 (by rw [zeros32, List.length_replicate])
    unfold getS getE at this
    rw [findL_cons, if_neg n3, findL_nil] at this
    rw [z32_cells]
    exact this
  have a1 : ∀ {w' : World} {Bs Bm : Nat}, StoreAt w' Bs Bm 1 [(A, ⟨#[97, 98]⟩)] → Calls Try.prog 59 #[.pointer (some ⟨Bs, 0, none⟩), .agg (bcells A), .string ⟨#[120]⟩] w' fun e w'' => e = .returned (.int .i64 1100) ∧ StoreAt w'' Bs Bm 1 [(A, ⟨#[97, 98]⟩)] ∧ w'.grownBy w'' (some Bm) := fun h => by
    have := oadd_any h A hAl ⟨#[120]⟩ (by decide)
    unfold addE addK at this
    rw [if_pos (.inr n2), if_pos (.inr n2)] at this
    exact this
  have a2 : ∀ {w' : World} {Bs Bm : Nat}, StoreAt w' Bs Bm 1 [(A, ⟨#[97, 98]⟩)] → Calls Try.prog 59 #[.pointer (some ⟨Bs, 0, none⟩), .agg (bcells A), .string ⟨#[97, 98]⟩] w' fun e w'' => e = .returned (.int .i64 0) ∧ StoreAt w'' Bs Bm 1 [(A, ⟨#[97, 98]⟩)] ∧ w'.grownBy w'' (some Bm) := fun h => by
    have := oadd_any h A hAl ⟨#[97, 98]⟩ (by decide)
    unfold addE addK at this
    have hn : ¬ (4096 < (⟨#[97, 98]⟩ : ByteArray).size ∨ objH ⟨#[97, 98]⟩ ≠ A) := fun h => h.elim k1 fun g => g eA.symm
    rw [if_neg hn, if_neg hn] at this
    unfold putE putK at this
    rw [if_neg k1, if_neg k1, ← eA, f1] at this
    simpa using this
  have ob : ∀ w', Calls Try.prog 58 #[.string ⟨#[97, 98]⟩] w' fun e w'' => e = .returned (.agg (bcells A)) ∧ Below w'.heap.size w' w'' := fun w' => by
    rw [eA]; exact obj_any _ w' (by decide)
  have heq : ∀ w', (binOp .eql 29 (.agg (bcells A)) (.agg (bcells A))).run Try.prog w' = .ok (.bool true) w' := fun w' => by rw [eql_bytes w' A A hAl hAl]; simp
  have heq2 : ∀ w', (Op.equalIn 10000 29 (.agg (bcells A)) (.agg (bcells A))).run Try.prog w' = .ok true w' := fun w' => by rw [run_equal_bytes w' A A hAl hAl]; simp
  have n0 := fun w' => onew_no 0 w' (.inl (by decide))
  have y0 := fun w' => onew_yes 1 w' (by decide) (by decide)
  have hzl : zeros32.length = 32 := by rw [zeros32, List.length_replicate]
  have P := Lib.hid (And.intro @p1 @p2)
  have G := Lib.hid (And.intro @g1 @g2)
  have D := Lib.hid (And.intro @a1 @a2)
  have N := Lib.hid (And.intro n0 y0)
  have O := Lib.hid (And.intro ob (And.intro hAl hzl))
  clear p1 p2 g1 g2 a1 a2 ob n0 y0 eA n1 n2 n3 k1 k2 k3 f1 hAl hzl
  go_enter Try.func55, Try.ntmps55
  go_wp2_with fail
  refine (N.out.2 w).mono ?_
  rintro e w1 ⟨Bs, Bm, rfl, hst1, hBs, hBm, hb1⟩
  go_wp2_with fail
  refine (N.out.1 w1).mono ?_
  rintro e _ ⟨rfl, rfl⟩
  go_wp2_with (go_at_call 39; refine (num_any2 0 _).mono ?_; rintro e w' ⟨rfl, rfl⟩)
  refine (P.out.1 hst1).mono ?_
  rintro e w2 ⟨rfl, hst2, hg2⟩
  have hbw2 : Below w.heap.size w w2 := hb1.trans (grown_below' hg2 hBm hb1.size)
  have hs2 := hbw2.size
  have hBm2 := hst2.map.lt
  clear hg2 hst1 hb1
  have hA0 : Blk (w2.alloc (.cells z32 29)) w2.heap.size 29 z32 := Blk.new _ _ _
  have hA1 : Blk ((w2.alloc (.cells z32 29)).setRow w2.heap.size (bcells A)) w2.heap.size 29 (bcells A) := hA0.row _
  have hbx : Below w2.heap.size w2 ((w2.alloc (.cells z32 29)).setRow w2.heap.size (bcells A)) := below_setRow ((Below.refl _ _).alloc (Nat.le_refl _) _) (Nat.le_refl _) _
  have hst3 := hst2.below hbx
  have hbw3 := hbw2.trans (hbx.mono hs2)
  go_wp2_with (refine wpList_alN (d := 5) z32 zero29 w2.heap.size rfl (wpList_st_row w2.heap.size (bcells A) rfl rfl 29 z32 hA0 (by rw [size29, bcells_size, O.out.2.1]) (by rw [bcells_size, O.out.2.1]; rfl) (bcells_one _) ?_); simp only [List.setIfInBounds_toArray, List.set_cons_succ, List.set_cons_zero])
  obtain ⟨w3, e3⟩ : ∃ w3, w3 = (w2.alloc (.cells z32 29)).setRow w2.heap.size (bcells A) := ⟨_, rfl⟩
  obtain ⟨p, ep⟩ : ∃ p, p = w2.heap.size := ⟨_, rfl⟩
  rw [← e3] at hA1 hst3 hbw3 ⊢
  rw [← ep] at hA1 hBm2 ⊢
  have hpB : p ≠ Bm := by omega
  clear e3 ep hA0 hbx hst2 hbw2 hs2 hBm2
  refine (P.out.2 hst3).mono ?_
  rintro e w4 ⟨rfl, hst4, hg4⟩
  have hA4 := hA1.grown hg4 (fun e => hpB (Option.some.inj e))
  have hbw4 : Below w.heap.size w w4 := hbw3.trans (grown_below' hg4 hBm hbw3.size)
  have hs4 := hbw4.size
  clear hg4 hst3 hbw3 hA1
  have hG0 : Blk (w4.alloc (.cells z32 29)) w4.heap.size 29 z32 := Blk.new _ _ _
  have hbx : Below w4.heap.size w4 ((w4.alloc (.cells z32 29)).setRow w4.heap.size (bcells zeros32)) := below_setRow ((Below.refl _ _).alloc (Nat.le_refl _) _) (Nat.le_refl _) _
  have hst5 := hst4.below hbx
  have hbw5 := hbw4.trans (hbx.mono hs4)
  have hA5 := hA4.below hbx hA4.lt
  go_wp2_with (first
    | (refine wpList_alN (d := 7) z32 zero29 w4.heap.size rfl (wpList_st_row w4.heap.size (bcells zeros32) rfl rfl 29 z32 hG0 (by rw [size29, bcells_size, O.out.2.2]) (by rw [bcells_size, O.out.2.2]; rfl) (bcells_one _) ?_); simp only [List.setIfInBounds_toArray, List.set_cons_succ, List.set_cons_zero])
    | (refine wpList_ld_row (d := 42) p (bcells A) rfl 29 hA5 Try.underlying29 rfl (by rw [size29, bcells_size, O.out.2.1]) ?_; simp only [List.setIfInBounds_toArray, List.set_cons_succ, List.set_cons_zero]))
  obtain ⟨w5, e5⟩ : ∃ w5, w5 = (w4.alloc (.cells z32 29)).setRow w4.heap.size (bcells zeros32) := ⟨_, rfl⟩
  rw [← e5] at hst5 hbw5 hA5 ⊢
  clear e5 hG0 hbx hst4 hbw4 hs4 hA4
  refine (G.out.1 hst5).mono ?_
  rintro e w6 ⟨rfl, hb6⟩
  have hst6 := hst5.below hb6
  have hbw6 := hbw5.trans (hb6.mono hbw5.size)
  have hA6 := hA5.below hb6 hA5.lt
  clear hb6 hst5 hbw5 hA5
  go_wp2_with (refine wpList_bd (d := 48) z32 (by kernel_rfl) ?_; simp only [List.setIfInBounds_toArray, List.set_cons_succ, List.set_cons_zero])
  refine (G.out.2 hst6).mono ?_
  rintro e w7 ⟨rfl, hb7⟩
  have hst7 := hst6.below hb7
  have hbw7 := hbw6.trans (hb7.mono hbw6.size)
  have hA7 := hA6.below hb7 hA6.lt
  clear hb7 hst6 hbw6 hA6
  go_wp2_with (refine wpList_ld_row (d := 53) p (bcells A) rfl 29 hA7 Try.underlying29 rfl (by rw [size29, bcells_size, O.out.2.1]) ?_; simp only [List.setIfInBounds_toArray, List.set_cons_succ, List.set_cons_zero])
  refine (D.out.1 hst7).mono ?_
  rintro e w8 ⟨rfl, hst8, hg8⟩
  have hA8 := hA7.grown hg8 (fun e => hpB (Option.some.inj e))
  have hbw8 : Below w.heap.size w w8 := hbw7.trans (grown_below' hg8 hBm hbw7.size)
  clear hg8 hst7 hbw7 hA7
  go_wp2_with (refine wpList_ld_row (d := 56) p (bcells A) rfl 29 hA8 Try.underlying29 rfl (by rw [size29, bcells_size, O.out.2.1]) ?_; simp only [List.setIfInBounds_toArray, List.set_cons_succ, List.set_cons_zero])
  refine (D.out.2 hst8).mono ?_
  rintro e w9 ⟨rfl, hst9, hg9⟩
  have hA9 := hA8.grown hg9 (fun e => hpB (Option.some.inj e))
  have hbw9 : Below w.heap.size w w9 := hbw8.trans (grown_below' hg9 hBm hbw8.size)
  clear hg9 hst8 hbw8 hA8
  go_upto_region 11 with fail
  have hnum : ∀ (v : Int) x, Calls Try.prog 39 #[.int .i64 v] (later w9 x) fun e w'' => e = .returned (.int .i64 v) ∧ ∃ k, w'' = later w9 k := fun v x => later_call_same (num_any v _)
  have hob : ∀ x, Calls Try.prog 58 #[.string ⟨#[97, 98]⟩] (later w9 x) fun e w'' => e = .returned (.agg (bcells A)) ∧ ∃ k, w'' = later w9 k := fun x => later_call (O.out.1 _)
  have hln : ∀ x, Calls Try.prog 63 #[.pointer (some ⟨Bs, 0, none⟩)] (later w9 x) fun e w'' => e = .returned (.int .i64 1) ∧ ∃ k, w'' = later w9 k := fun x => later_call_same ((olen_any (hst9.below (later_below w9 x))).mono fun _ _ h => ⟨h.1, h.2.symm⟩)
  have HC := Lib.hid (And.intro hnum (And.intro hob hln))
  clear hnum hob hln
  refine wp_region_later (by kernel_rfl) (by kernel_rfl) ?_
  repeat (first
    | (refine wpQuiet_ld_g (d := 62) p 0 (bcells A).toList rfl rfl (by rintro _ ⟨x, rfl⟩; exact range_of_blk (hA9.below (later_below w9 x) hA9.lt)) Try.underlying29 rfl (by rw [size29, Array.length_toList, bcells_size, O.out.2.1]) ?_; simp only [List.setIfInBounds_toArray, List.set_cons_succ, List.set_cons_zero, Array.toArray_toList])
    | (go_big_quiet_step ((first | (go_at_call 39; exact HC.out.1 _ _) | (go_at_call 58; exact HC.out.2.1 _) | (go_at_call 63; exact HC.out.2.2 _)))))
  refine wpQuiet_nil ?_
  rintro _ ⟨x, rfl⟩
  go_wp2
  go_ret
  exact ⟨rfl, hbw9.trans ((later_below w9 x).mono hbw9.size)⟩
end Go.Proofs.Ytmhbkilpllgchaa
