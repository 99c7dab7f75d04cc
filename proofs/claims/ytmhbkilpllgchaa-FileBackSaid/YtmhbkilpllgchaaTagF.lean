/- The walk of Tags. -/
import Derived.Test.YtmhbkilpllgchaaTagE
namespace Go.Proofs.Ytmhbkilpllgchaa
open Go.RowKit BigFrame
set_option linter.unusedVariables false
set_option linter.unusedSimpArgs false

theorem num_any2 (n : Int) (w : World) : Calls Try.prog 39 #[.int .i64 n] w fun e w' => e = .returned (.int .i64 n) ∧ w = w' := (num_any n w).mono fun _ _ h => ⟨h.1, h.2.symm⟩

set_option maxRecDepth 100000 in
set_option maxHeartbeats 2000000 in
theorem tags_any (t : Int) (pa : Option Addr) (ss : List ByteArray) (c : Nat) (w : World) (ht1 : -9223372036854775808 ≤ t) (ht2 : t ≤ 9223372036854775807) (hn : ss.length * 16 ≤ 140737488351232) (hx : Strs w pa ss) (hz : ∀ j, j < ss.length → (ss.getD j ByteArray.empty).size ≤ 140737488351232) :
    Calls Try.prog 8 #[.int .i64 t, .slice pa ss.length c] w fun e w' => e = .returned (.bool true) ∧ Below w.heap.size w w' := by
  obtain ⟨H, eH⟩ : ∃ H, H = tagH t ss := ⟨_, rfl⟩
  obtain ⟨E, eE⟩ : ∃ E, E = tagE t ss := ⟨_, rfl⟩
  have hHl : H.length = 32 := by rw [eH, tagH_length]
  have hT : tagT t ss = .tuple #[.agg (bcells H), .int .i64 E] := by rw [tagT, eH, eE]
  have c0 := lend_any pa ss c w hx hn
  have c1 : ∀ (w : World) (pa : Option Addr) (c : Nat), Strs w pa ss → Calls Try.prog 41 #[.int .i64 t, .slice pa ss.length c] w fun e w' => e = .returned (.tuple #[.agg (bcells H), .int .i64 E]) ∧ Below w.heap.size w w' := fun w pa c hx => by
    rw [← hT]; exact tag_any t pa ss c w hn hx hz
  have c2 : ∀ (w : World) (pa : Option Addr) (c : Nat), Strs w pa ss → Calls Try.prog 42 #[.int .i64 t, .slice pa ss.length c] w fun e w' => e = .returned (.tuple #[.agg (bcells H), .int .i64 E]) ∧ Below w.heap.size w w' := fun w pa c hx => by
    rw [← hT]; exact rtag_all t pa ss c w hn hx hz
  have c3 : ∀ (w : World) (pa : Option Addr) (c base g cap : Nat), Lent w base g cap ss → Strs w pa ss → Calls Try.prog 43 #[.slice (some ⟨g, 0, none⟩) ss.length cap, .slice pa ss.length c] w fun e w' => e = .returned (.bool true) ∧ ∃ m, w' = w.drewN m := fun w pa c base g cap h h2 => kept_any pa ss c base g cap w h h2 hn
  obtain ⟨n, en⟩ : ∃ n, n = ss.length := ⟨_, rfl⟩
  rw [← en] at c0 c1 c2 c3 ⊢
  have C := Lib.hid (And.intro c1 (And.intro c2 (And.intro c3 (And.intro eH (And.intro eE en)))))
  have HL := Lib.hid hHl
  have C0 := Lib.hid c0
  have heq : ∀ w', (binOp .eql 29 (.agg (bcells H)) (.agg (bcells H))).run Try.prog w' = .ok (.bool true) w' := fun w' => by rw [eql_bytes w' H H hHl hHl]; simp
  have heq2 : ∀ w', (Op.equalIn 10000 29 (.agg (bcells H)) (.agg (bcells H))).run Try.prog w' = .ok true w' := fun w' => by rw [run_equal_bytes w' H H hHl hHl]; simp
  clear eH eE hHl hT c0 c1 c2 c3 en hz hn
  go_enter Try.func8, Try.ntmps8
  go_wp2_with fail
  refine C0.out.mono ?_
  rintro e w1 ⟨g, cap, rfl, hl1, hb1⟩
  have hs1 := hb1.size
  go_wp2_with fail
  refine (C.out.1 w1 _ _ hl1.strs).mono ?_
  rintro e w2 ⟨rfl, hb2⟩
  have hl2 := hl1.below hb2
  have hbw2 := hb1.trans (hb2.mono hs1)
  have hs2 := hbw2.size
  have hA0 : Blk (w2.alloc (.cells z32 29)) w2.heap.size 29 z32 := Blk.new _ _ _
  have hbA := hbw2.alloc hs2 (.cells z32 29)
  have hlA := hl2.below ((Below.refl _ _).alloc (Nat.le_refl _) (.cells z32 29))
  go_wp2_with (refine wpList_alN (d := 6) z32 zero29 w2.heap.size rfl (wpList_st_row w2.heap.size (bcells H) rfl rfl 29 z32 hA0 (by rw [size29, bcells_size, HL.out]) (by rw [bcells_size, HL.out]; rfl) (bcells_one _) ?_); simp only [List.setIfInBounds_toArray, List.set_cons_succ, List.set_cons_zero])
  have hA1 : Blk ((w2.alloc (.cells z32 29)).setRow w2.heap.size (bcells H)) w2.heap.size 29 (bcells H) := hA0.row _
  have hb3 : Below w.heap.size w ((w2.alloc (.cells z32 29)).setRow w2.heap.size (bcells H)) := below_setRow hbA hs2 _
  have hl3 : Lent ((w2.alloc (.cells z32 29)).setRow w2.heap.size (bcells H)) w.heap.size g cap ss := hl2.below (below_setRow ((Below.refl _ _).alloc (Nat.le_refl _) (.cells z32 29)) (Nat.le_refl _) _)
  obtain ⟨w3, e3⟩ : ∃ w3, w3 = (w2.alloc (.cells z32 29)).setRow w2.heap.size (bcells H) := ⟨_, rfl⟩
  rw [← e3] at hA1 hb3 hl3 ⊢
  obtain ⟨A, eA⟩ : ∃ A, A = w2.heap.size := ⟨_, rfl⟩
  rw [← eA] at hA1 hs2 ⊢
  clear e3 eA hA0 hbA hlA hbw2 hl2 hl1 hb1 hb2
  have hAl := hA1.lt
  refine (C.out.2.1 w3 pa c (hx.below hb3)).mono ?_
  rintro e w4 ⟨rfl, hb4⟩
  have hA4 := hA1.below hb4 hAl
  have hl4 := hl3.below hb4
  have hbw4 := hb3.trans (hb4.mono hb3.size)
  have hs4 := hbw4.size
  have hs34 := hb4.size
  have hD0 : Blk (w4.alloc (.cells z32 29)) w4.heap.size 29 z32 := Blk.new _ _ _
  have hD1 : Blk ((w4.alloc (.cells z32 29)).setRow w4.heap.size (bcells H)) w4.heap.size 29 (bcells H) := hD0.row _
  have hA5 : Blk ((w4.alloc (.cells z32 29)).setRow w4.heap.size (bcells H)) A 29 (bcells H) := (hA4.alloc _).rowFar (by omega) _
  have hb5 : Below w.heap.size w ((w4.alloc (.cells z32 29)).setRow w4.heap.size (bcells H)) := below_setRow (hbw4.alloc hs4 _) hs4 _
  have hl5 : Lent ((w4.alloc (.cells z32 29)).setRow w4.heap.size (bcells H)) w.heap.size g cap ss := hl4.below (below_setRow ((Below.refl _ _).alloc (Nat.le_refl _) (.cells z32 29)) (Nat.le_refl _) _)
  obtain ⟨w5, e5⟩ : ∃ w5, w5 = (w4.alloc (.cells z32 29)).setRow w4.heap.size (bcells H) := ⟨_, rfl⟩
  rw [← e5] at hD1 hA5 hb5 hl5
  obtain ⟨D, eD⟩ : ∃ D, D = w4.heap.size := ⟨_, rfl⟩
  rw [← eD] at hD1 hD0
  have E5 := Lib.hid (And.intro e5 eD)
  have hx5 := hx.below hb5
  clear e5 eD hA4 hA1 hl4 hl3 hb4 hb3 hbw4
  go_wp2_with (first
    | (refine wpList_alN (d := 8) z32 zero29 D E5.out.2.symm (wpList_st_row D (bcells H) rfl rfl 29 z32 hD0 (by rw [size29, bcells_size, HL.out]) (by rw [bcells_size, HL.out]; rfl) (bcells_one _) ?_); simp only [List.setIfInBounds_toArray, List.set_cons_succ, List.set_cons_zero]; rw [E5.out.2, ← E5.out.1, ← E5.out.2])
    | (refine wpList_ld_row (d := 24) A (bcells H) rfl 29 hA5 Try.underlying29 rfl (by rw [size29, bcells_size, HL.out]) ?_; simp only [List.setIfInBounds_toArray, List.set_cons_succ, List.set_cons_zero])
    | (refine wpList_ld_row (d := 25) D (bcells H) rfl 29 hD1 Try.underlying29 rfl (by rw [size29, bcells_size, HL.out]) ?_; simp only [List.setIfInBounds_toArray, List.set_cons_succ, List.set_cons_zero])
    | (go_at_call 39; refine (num_any2 E _).mono ?_; rintro e w' ⟨rfl, rfl⟩))
  refine (C.out.2.2.1 w5 pa c w.heap.size g cap hl5 hx5).mono ?_
  rintro e _ ⟨rfl, m, rfl⟩
  go_wp2_with fail
  refine (awake2_any _).mono ?_
  rintro e w6 ⟨rfl, hb6⟩
  go_wp2
  go_ret
  exact ⟨rfl, hb5.trans ((below_drewN (Below.refl _ _) m).trans (hb6.mono hb5.size))⟩
end Go.Proofs.Ytmhbkilpllgchaa
