/- The walk of ObjectForms. -/
import Derived.Test.YtmhbkilpllgchaaObjE
import Derived.Test.YtmhbkilpllgchaaTagG
namespace Go.Proofs.Ytmhbkilpllgchaa
open Go.RowKit BigFrame
set_option linter.unusedVariables false
set_option linter.unusedSimpArgs false

theorem putE_room {most : Nat} {kv : KV} {s : ByteArray} (h : kv.length < most) : putE most kv s = if 4096 < s.size then 1100 else 0 := by
  unfold putE
  split
  · rfl
  · split
    · rfl
    · rw [if_neg (by omega)]
theorem putK_len (most : Nat) (kv : KV) (s : ByteArray) : (putK most kv s).length ≤ kv.length + 1 := by
  unfold putK
  split
  · omega
  · split
    · omega
    · split
      · omega
      · rw [List.length_append]; exact Nat.le_refl _
theorem addK_len (most : Nat) (kv : KV) (L : List UInt8) (s : ByteArray) : (addK most kv L s).length ≤ kv.length + 1 := by
  unfold addK
  split
  · omega
  · exact putK_len most kv s

set_option maxRecDepth 100000 in
set_option maxHeartbeats 40000000 in
theorem objforms_any (most size : Int) (L : List UInt8) (w : World) (hm1 : -9223372036854775808 ≤ most) (hm2 : most ≤ 9223372036854775807) (hs1 : -9223372036854775808 ≤ size) (hs2 : size ≤ 9223372036854775807) (hL : L.length = 32) :
    Calls Try.prog 16 #[.int .i64 most, .int .i64 size, .agg (bcells L)] w fun e w' => e = .returned (.bool true) ∧ Below w.heap.size w w' := by
  obtain ⟨i0, hi0, hz0, hz1, hz2⟩ := info_parts info5
  obtain ⟨y, hy, hy7⟩ : ∃ y : Nat, bits .and .i64 size 7 = (y : Int) ∧ y ≤ 7 := by
    have := and_7 size
    exact ⟨(bits .and .i64 size 7).toNat, by omega, by omega⟩
  obtain ⟨N, eN⟩ : ∃ N, N = 4094 + y := ⟨_, rfl⟩
  obtain ⟨Zs, hZs⟩ : ∃ Zs : ByteArray, Zs = ⟨(List.replicate N (0 : UInt8)).toArray⟩ := ⟨_, rfl⟩
  have hZss : Zs.size = N := by rw [hZs]; simp [ByteArray.size]
  have hcv : ∀ (w' : World) (g : Nat), Blk w' g 5 ((List.replicate N (0 : UInt8)).map B).toArray → (convert 35 9 (.slice (some ⟨g, 0, none⟩) N N)).run Try.prog w' = .ok (.string Zs) w' := fun w' g hb => by
    have := run_str w' g N (List.replicate N 0) hb
    rw [List.length_replicate] at this
    rw [hZs]
    exact this
  obtain ⟨HA, eHA⟩ : ∃ H, H = objH ⟨#[97, 98, 99]⟩ := ⟨_, rfl⟩
  obtain ⟨HZ, eHZ⟩ : ∃ H, H = objH Zs := ⟨_, rfl⟩
  have hHA : HA.length = 32 := by rw [eHA]; exact objH_length _
  have hHZ : HZ.length = 32 := by rw [eHZ]; exact objH_length _
  obtain ⟨PH, ePH⟩ : ∃ PH, PH = putH 3 [] Zs := ⟨_, rfl⟩
  have hPH : PH.length = 32 := by rw [ePH]; exact putH_length _ _ _
  obtain ⟨kv1, e1⟩ : ∃ k, k = putK 3 [] Zs := ⟨_, rfl⟩
  obtain ⟨kv2, e2⟩ : ∃ k, k = addK 3 kv1 L ⟨#[97, 98, 99]⟩ := ⟨_, rfl⟩
  obtain ⟨kv3, e3⟩ : ∃ k, k = addK 3 kv2 HZ Zs := ⟨_, rfl⟩
  have l1 : kv1.length ≤ 1 := by rw [e1]; exact putK_len _ _ _
  have l2 : kv2.length ≤ 2 := by rw [e2]; exact Nat.le_trans (addK_len _ _ _ _) (by omega)
  obtain ⟨EG, eG⟩ : ∃ E, E = putE 3 [] Zs := ⟨_, rfl⟩
  obtain ⟨EI, eI⟩ : ∃ E, E = addE 3 kv1 L ⟨#[97, 98, 99]⟩ := ⟨_, rfl⟩
  obtain ⟨EJ, eJ⟩ : ∃ E, E = addE 3 kv2 HZ Zs := ⟨_, rfl⟩
  have hZ16 : Zs.size ≤ 140737488351232 := by omega
  have c1 : ∀ {w' : World} {Bs Bm : Nat}, StoreAt w' Bs Bm 3 [] → Calls Try.prog 56 #[.pointer (some ⟨Bs, 0, none⟩), .string Zs] w' fun e w'' => e = .returned (.tuple #[.agg (bcells PH), .int .i64 EG]) ∧ StoreAt w'' Bs Bm 3 kv1 ∧ w'.grownBy w'' (some Bm) := fun h => by
    rw [ePH, eG, e1]; exact put_any h Zs hZ16
  have c2 : ∀ {w' : World} {Bs Bm : Nat}, StoreAt w' Bs Bm 3 kv1 → Calls Try.prog 59 #[.pointer (some ⟨Bs, 0, none⟩), .agg (bcells L), .string ⟨#[97, 98, 99]⟩] w' fun e w'' => e = .returned (.int .i64 EI) ∧ StoreAt w'' Bs Bm 3 kv2 ∧ w'.grownBy w'' (some Bm) := fun h => by
    rw [eI, e2]; exact oadd_any h L hL ⟨#[97, 98, 99]⟩ (by decide)
  have c3 : ∀ {w' : World} {Bs Bm : Nat}, StoreAt w' Bs Bm 3 kv2 → Calls Try.prog 59 #[.pointer (some ⟨Bs, 0, none⟩), .agg (bcells HZ), .string Zs] w' fun e w'' => e = .returned (.int .i64 EJ) ∧ StoreAt w'' Bs Bm 3 kv3 ∧ w'.grownBy w'' (some Bm) := fun h => by
    rw [eJ, e3]; exact oadd_any h HZ hHZ Zs hZ16
  have c4 : ∀ w', Calls Try.prog 58 #[.string Zs] w' fun e w'' => e = .returned (.agg (bcells HZ)) ∧ Below w'.heap.size w' w'' := fun w' => by rw [eHZ]; exact obj_any Zs w' hZ16
  have c5 : ∀ w', Calls Try.prog 58 #[.string ⟨#[97, 98, 99]⟩] w' fun e w'' => e = .returned (.agg (bcells HA)) ∧ Below w'.heap.size w' w'' := fun w' => by rw [eHA]; exact obj_any _ w' (by decide)
  have y0 := fun w' => onew_yes 3 w' (by decide) (by decide)
  obtain ⟨D, eD⟩ : ∃ D, D = decide (L = HA) := ⟨_, rfl⟩
  have heq : ∀ w', (binOp .eql 29 (.agg (bcells L)) (.agg (bcells HA))).run Try.prog w' = .ok (.bool D) w' := fun w' => by rw [eql_bytes w' L HA hL hHA, eD]
  have heq2 : ∀ w', (Op.equalIn 10000 29 (.agg (bcells L)) (.agg (bcells HA))).run Try.prog w' = .ok D w' := fun w' => by rw [run_equal_bytes w' L HA hL hHA, eD]
  have hQ : (D = true ∧ EI = 0) ∨ (D = false ∧ EI = 1100) := by
    by_cases g : L = HA
    · refine .inl ⟨by rw [eD]; exact decide_eq_true g, ?_⟩
      rw [eI, addE, if_neg (fun h => h.elim (by decide) fun h => h (by rw [← eHA, g])), putE_room (by omega), if_neg (by decide)]
    · refine .inr ⟨by rw [eD]; exact decide_eq_false g, ?_⟩
      rw [eI, addE, if_pos (.inr fun h => g (by rw [← h, ← eHA]))]
  have hF : (decide ((4094 : Int) + (y : Int) ≤ 4096) = true ∧ EG = 0 ∧ EJ = 0) ∨ (decide ((4094 : Int) + (y : Int) ≤ 4096) = false ∧ EG = 1100 ∧ EJ = 1100) := by
    by_cases g : 4096 < Zs.size
    · refine .inr ⟨decide_eq_false (by omega), ?_, ?_⟩
      · rw [eG, putE_room (by decide), if_pos g]
      · rw [eJ, addE, if_pos (.inl g)]
    · refine .inl ⟨decide_eq_true (by omega), ?_, ?_⟩
      · rw [eG, putE_room (by decide), if_neg g]
      · rw [eJ, addE, if_neg (fun h => h.elim g fun h => h eHZ.symm), putE_room (by omega), if_neg g]
  have hNew : (most < 1 ∧ ∀ w', Calls Try.prog 53 #[.int .i64 most] w' fun e w'' => ∃ p, e = .returned (.tuple #[.pointer p, .int .i64 1100]) ∧ Below w'.heap.size w' w'') ∨ (1 ≤ most ∧ 1024 < most ∧ ∀ w', Calls Try.prog 53 #[.int .i64 most] w' fun e w'' => ∃ p, e = .returned (.tuple #[.pointer p, .int .i64 1100]) ∧ Below w'.heap.size w' w'')
      ∨ (1 ≤ most ∧ most ≤ 1024 ∧ ∀ w', Calls Try.prog 53 #[.int .i64 most] w' fun e w'' => ∃ p, e = .returned (.tuple #[.pointer p, .int .i64 0]) ∧ Below w'.heap.size w' w'') := by
    by_cases g1 : most < 1
    · exact .inl ⟨g1, fun w' => (onew_no most w' (.inl g1)).mono fun e w'' ⟨h1, h2⟩ => ⟨none, h1, by rw [h2]; exact Below.refl _ _⟩⟩
    · by_cases g2 : 1024 < most
      · exact .inr (.inl ⟨by omega, g2, fun w' => (onew_no most w' (.inr g2)).mono fun e w'' ⟨h1, h2⟩ => ⟨none, h1, by rw [h2]; exact Below.refl _ _⟩⟩)
      · obtain ⟨m, rfl⟩ : ∃ m : Nat, most = (m : Int) := ⟨most.toNat, by omega⟩
        exact .inr (.inr ⟨by omega, by omega, fun w' => (onew_yes m w' (by omega) (by omega)).mono fun e w'' ⟨Bs, Bm, h1, _, _, _, h5⟩ => ⟨_, h1, h5⟩⟩)
  have hBox : Blk (w.alloc (.cells (bcells L) 29)) w.heap.size 29 (bcells L) := Blk.new _ _ _
  have hb0 : Below w.heap.size w (w.alloc (.cells (bcells L) 29)) := (Below.refl _ _).alloc (Nat.le_refl _) _
  have hN2 : N ≤ 140737488355328 := by omega
  have hNi : (4094 : Int) + (y : Int) = (N : Int) := by omega
  have C := Lib.hid (And.intro @c1 (And.intro @c2 (And.intro @c3 (And.intro c4 c5))))
  have U := Lib.hid (And.intro hBox (And.intro hb0 (And.intro y0 (And.intro hL (And.intro hPH (And.intro hNi hcv))))))
  clear c1 c2 c3 c4 c5 hBox hb0 y0 hL hPH hNi hcv hHA hHZ l1 l2 e1 e2 e3 eG eI eJ eD eHA eHZ ePH hZ16 hZss hZs eN
  rcases hNew with ⟨g1, cN⟩ | ⟨g1, g2, cN⟩ | ⟨g1, g2, cN⟩ <;> rcases hQ with ⟨rfl, rfl⟩ | ⟨rfl, rfl⟩ <;> rcases hF with ⟨f1, rfl, rfl⟩ | ⟨f1, rfl, rfl⟩
  all_goals try have q1 : decide (most ≤ 1024) = false := decide_eq_false (by omega)
  all_goals try have q2 : decide (most ≤ 1024) = true := decide_eq_true (by omega)
  all_goals try have q3 : decide (1 ≤ most) = false := decide_eq_false (by omega)
  all_goals try have q4 : decide (1 ≤ most) = true := decide_eq_true (by omega)
  all_goals
    have CN := Lib.hid cN
    clear cN
    go_enter Try.func16, Try.ntmps16
    go_wp2_with fail
    refine (awake11_any _).mono ?_
    rintro e w1 ⟨rfl, hb1⟩
    have hbw1 := U.out.2.1.trans (hb1.mono (by simp))
    have hBx1 := U.out.1.below hb1 U.out.1.lt
    clear hb1
    go_wp2_with fail
    refine (CN.out w1).mono ?_
    rintro e w2 ⟨p0, rfl, hb2⟩
    have hbw2 := hbw1.trans (hb2.mono hbw1.size)
    have hBx2 := hBx1.below hb2 hBx1.lt
    clear hb2 hbw1 hBx1
    go_wp2_with fail
    refine (U.out.2.2.1 w2).mono ?_
    rintro e w3 ⟨Bs, Bm, rfl, hst3, hBs, hBm, hb3⟩
    have hbw3 := hbw2.trans (hb3.mono hbw2.size)
    have hBx3 := hBx2.below hb3 hBx2.lt
    have hlt2 := hBx2.lt
    have hBmw : w.heap.size ≤ Bm := by omega
    have hxB : w.heap.size ≠ Bm := by omega
    clear hb3 hbw2 hBx2 hlt2 hBs hBm
    go_wp2_with (refine wpList_mk w3.heap.size N _ U.out.2.2.2.2.2.1 hN2 rfl rfl rfl hi0 hz0 hz1 hz2 ?_; intro wy hY0 hby hsy; have hcv := U.out.2.2.2.2.2.2 wy w3.heap.size hY0; have HBY := Lib.hid hby; clear hby hsy hY0; simp only [List.setIfInBounds_toArray, List.set_cons_succ, List.set_cons_zero])
    have hby := HBY.out
    have hsty := hst3.below hby
    have hbwy := hbw3.trans (hby.mono hbw3.size)
    have hBxy := hBx3.below hby hBx3.lt
    clear hby hst3 hbw3 hBx3
    refine (C.out.1 hsty).mono ?_
    rintro e w4 ⟨rfl, hst4, hg4⟩
    have hbw4 : Below w.heap.size w w4 := hbwy.trans (grown_below' hg4 hBmw hbwy.size)
    have hBx4 := hBxy.grown hg4 (fun e => hxB (Option.some.inj e))
    have hs4 := hbw4.size
    clear hg4 hsty hbwy hBxy hcv HBY
    have hG0 : Blk (w4.alloc (.cells z32 29)) w4.heap.size 29 z32 := Blk.new _ _ _
    have hbx : Below w4.heap.size w4 ((w4.alloc (.cells z32 29)).setRow w4.heap.size (bcells PH)) := below_setRow ((Below.refl _ _).alloc (Nat.le_refl _) _) (Nat.le_refl _) _
    have hst5 := hst4.below hbx
    have hbw5 := hbw4.trans (hbx.mono hs4)
    have hBx5 := hBx4.below hbx hBx4.lt
    go_wp2_with (first
      | (refine wpList_alN (d := 14) z32 zero29 w4.heap.size rfl (wpList_st_row w4.heap.size (bcells PH) rfl rfl 29 z32 hG0 (by rw [size29, bcells_size, U.out.2.2.2.2.1]) (by rw [bcells_size, U.out.2.2.2.2.1]; rfl) (bcells_one _) ?_); simp only [List.setIfInBounds_toArray, List.set_cons_succ, List.set_cons_zero])
      | (refine wpList_ld_row (d := 49) w.heap.size (bcells L) rfl 29 hBx5 Try.underlying29 rfl (by rw [size29, bcells_size, U.out.2.2.2.1]) ?_; simp only [List.setIfInBounds_toArray, List.set_cons_succ, List.set_cons_zero]))
    obtain ⟨w5, e5⟩ : ∃ w5, w5 = (w4.alloc (.cells z32 29)).setRow w4.heap.size (bcells PH) := ⟨_, rfl⟩
    rw [← e5] at hst5 hbw5 hBx5 ⊢
    clear e5 hG0 hbx hst4 hbw4 hs4 hBx4
    refine (C.out.2.1 hst5).mono ?_
    rintro e w6 ⟨rfl, hst6, hg6⟩
    have hbw6 : Below w.heap.size w w6 := hbw5.trans (grown_below' hg6 hBmw hbw5.size)
    have hBx6 := hBx5.grown hg6 (fun e => hxB (Option.some.inj e))
    clear hg6 hst5 hbw5 hBx5
    go_wp2_with fail
    refine (C.out.2.2.2.1 w6).mono ?_
    rintro e w7 ⟨rfl, hb7⟩
    have hst7 := hst6.below hb7
    have hbw7 := hbw6.trans (hb7.mono hbw6.size)
    have hBx7 := hBx6.below hb7 hBx6.lt
    clear hb7 hst6 hbw6 hBx6
    go_wp2_with fail
    refine (C.out.2.2.1 hst7).mono ?_
    rintro e w8 ⟨rfl, hst8, hg8⟩
    have hbw8 : Below w.heap.size w w8 := hbw7.trans (grown_below' hg8 hBmw hbw7.size)
    have hBx8 := hBx7.grown hg8 (fun e => hxB (Option.some.inj e))
    clear hg8 hst7 hbw7 hBx7 hst8
    go_upto_region 12 with fail
    have hnum : ∀ (v : Int) x, Calls Try.prog 39 #[.int .i64 v] (later w8 x) fun e w'' => e = .returned (.int .i64 v) ∧ ∃ k, w'' = later w8 k := fun v x => later_call_same (num_any v _)
    have hob : ∀ x, Calls Try.prog 58 #[.string ⟨#[97, 98, 99]⟩] (later w8 x) fun e w'' => e = .returned (.agg (bcells HA)) ∧ ∃ k, w'' = later w8 k := fun x => later_call (C.out.2.2.2.2 _)
    have HC := Lib.hid (And.intro hnum hob)
    clear hnum hob
    refine wp_region_later (by kernel_rfl) (by kernel_rfl) ?_
    repeat (first
      | (refine wpQuiet_ld_g (d := 87) w.heap.size 0 (bcells L).toList rfl rfl (by rintro _ ⟨x, rfl⟩; exact range_of_blk (hBx8.below (later_below w8 x) hBx8.lt)) Try.underlying29 rfl (by rw [size29, Array.length_toList, bcells_size, U.out.2.2.2.1]) ?_; simp only [List.setIfInBounds_toArray, List.set_cons_succ, List.set_cons_zero, Array.toArray_toList])
      | (go_big_quiet_step ((first | (go_at_call 39; exact HC.out.1 _ _) | (go_at_call 58; exact HC.out.2 _)))))
    refine wpQuiet_nil ?_
    rintro _ ⟨x, rfl⟩
    go_wp2
    go_ret
    exact ⟨rfl, hbw8.trans ((later_below w8 x).mono hbw8.size)⟩
end Go.Proofs.Ytmhbkilpllgchaa
