/- The reference's store of objects: Add. -/
import Derived.Test.YtmhbkilpllgchaaObjK
namespace Go.Proofs.Ytmhbkilpllgchaa
open Go.RowKit BigFrame
set_option linter.unusedVariables false
set_option linter.unusedSimpArgs false

set_option maxRecDepth 100000 in
set_option maxHeartbeats 4000000 in
theorem radd_any {w : World} {base Br most : Nat} {kv : KV} (h : RefAt w base Br most kv) (L : List UInt8) (hLl : L.length = 32) (s : ByteArray) (hs : s.size ≤ 140737488351232) :
    Calls Try.prog 60 #[.pointer (some ⟨Br, 0, none⟩), .agg (bcells L), .string s] w fun e w' => e = .returned (.int .i64 (addE most kv L s)) ∧ RefAt w' base Br most (addK most kv L s) ∧ Below base w w' := by
  obtain ⟨H, eH⟩ : ∃ H, H = objH s := ⟨_, rfl⟩
  have hHl : H.length = 32 := by rw [eH]; exact objH_length s
  have hA1 : Blk (w.alloc (.cells (bcells L) 29)) w.heap.size 29 (bcells L) := Blk.new _ _ _
  have hb1 : Below w.heap.size w (w.alloc (.cells (bcells L) 29)) := (Below.refl _ _).alloc (Nat.le_refl _) _
  have hobj : ∀ w', Calls Try.prog 58 #[.string s] w' fun e w'' => e = .returned (.agg (bcells H)) ∧ Below w'.heap.size w' w'' := fun w' => by rw [eH]; exact obj_any s w' hs
  have hbse : base ≤ w.heap.size := by have := h.ge; have := h.lt; omega
  have hput := fun (w' : World) (h' : RefAt w' base Br most kv) => rput_any h' s hs
  have hph := putH_length most kv s
  have hne : ∀ w', (binOp .neq 29 (.agg (bcells H)) (.agg (bcells L))).run Try.prog w' = .ok (.bool (!decide (H = L))) w' := fun w' => neq_bytes w' H L hHl hLl
  have hne2 : ∀ w', (Op.equalIn 10000 29 (.agg (bcells H)) (.agg (bcells L))).run Try.prog w' = .ok (decide (H = L)) w' := fun w' => run_equal_bytes w' H L hHl hLl
  unfold addE addK
  rw [← eH]
  obtain ⟨PH, ePH⟩ : ∃ PH, PH = putH most kv s := ⟨_, rfl⟩
  obtain ⟨PE, ePE⟩ : ∃ PE, PE = putE most kv s := ⟨_, rfl⟩
  obtain ⟨PK, ePK⟩ : ∃ PK, PK = putK most kv s := ⟨_, rfl⟩
  rw [← ePH, ← ePE, ← ePK] at hput
  rw [← ePH] at hph
  rw [← ePE, ← ePK]
  have hway : (4096 < s.size ∧ decide ((4096 : Int) < (s.size : Int)) = true) ∨ (¬ 4096 < s.size ∧ decide ((4096 : Int) < (s.size : Int)) = false ∧ ¬ H = L) ∨ (¬ 4096 < s.size ∧ decide ((4096 : Int) < (s.size : Int)) = false ∧ H = L) := by
    by_cases g : 4096 < s.size
    · exact .inl ⟨g, decide_eq_true (by omega)⟩
    · by_cases g2 : H = L
      · exact .inr (.inr ⟨g, decide_eq_false (by omega), g2⟩)
      · exact .inr (.inl ⟨g, decide_eq_false (by omega), g2⟩)
  have C := Lib.hid (And.intro hobj (And.intro h (And.intro hput (And.intro hHl (And.intro hph (And.intro hLl (And.intro hA1 hb1)))))))
  clear hobj h hput eH hHl hph hLl ePH ePE ePK hs hA1 hb1
  rcases hway with ⟨k1, k2⟩ | ⟨k1, k2, k3⟩ | ⟨k1, k2, k3⟩
  case' inl => rw [if_pos (.inl k1), if_pos (.inl k1)]
  case' inr.inl => rw [if_pos (.inr k3), if_pos (.inr k3)]; rw [decide_eq_false k3, Bool.not_false] at hne; rw [decide_eq_false k3] at hne2; clear k3
  case' inr.inr => rw [if_neg (fun h => h.elim k1 fun g => g k3), if_neg (fun h => h.elim k1 fun g => g k3)]; rw [decide_eq_true k3, Bool.not_true] at hne; rw [decide_eq_true k3] at hne2; clear k3
  all_goals
    clear k1
    go_enter Try.func60, Try.ntmps60
    go_wp2_with fail
    have hA1 := C.out.2.2.2.2.2.2.1
    have hb1 := C.out.2.2.2.2.2.2.2
    obtain ⟨w1, e1⟩ : ∃ w1, w1 = w.alloc (.cells (bcells L) 29) := ⟨_, rfl⟩
    rw [← e1] at hA1 hb1 ⊢
    clear e1
    have c58 : ∀ x, Calls Try.prog 58 #[.string s] (later w1 x) fun e w'' => e = .returned (.agg (bcells H)) ∧ ∃ k, w'' = later w1 k := fun x => later_call (C.out.1 _)
    have HC := Lib.hid c58
    clear c58
    refine wp_region_later (by kernel_rfl) (by kernel_rfl) ?_
    repeat (first
      | (refine wpQuiet_ld_g (d := 15) w.heap.size 0 (bcells L).toList rfl rfl (by rintro _ ⟨x, rfl⟩; exact range_of_blk (hA1.below (later_below w1 x) hA1.lt)) Try.underlying29 rfl (by rw [size29, Array.length_toList, bcells_size, C.out.2.2.2.2.2.1]) ?_; simp only [List.setIfInBounds_toArray, List.set_cons_succ, List.set_cons_zero, Array.toArray_toList])
      | (go_big_quiet_step ((go_at_call 58; exact HC.out _))))
    refine wpQuiet_nil ?_
    rintro _ ⟨x, rfl⟩
    have hb2 : Below w.heap.size w (later w1 x) := hb1.trans ((later_below w1 x).mono hb1.size)
    have hr2 := C.out.2.1.below hb2
    obtain ⟨w2, e2⟩ : ∃ w2, w2 = later w1 x := ⟨_, rfl⟩
    rw [← e2] at hb2 hr2 ⊢
    clear e2 hA1 hb1 HC x
    go_wp2_with fail
  all_goals first
    | (go_ret; exact ⟨rfl, hr2, hb2.mono hbse⟩)
    | (refine (C.out.2.2.1 w2 hr2).mono ?_
       rintro e w4 ⟨rfl, hr4, hb4, _⟩
       have hPl := C.out.2.2.2.2.1
       have hb4w : Below base w w4 := (hb2.mono hbse).trans hb4
       have hs4 := hb4w.size
       have hG0 : Blk (w4.alloc (.cells z32 29)) w4.heap.size 29 z32 := Blk.new _ _ _
       have hb5 : Below w4.heap.size w4 ((w4.alloc (.cells z32 29)).setRow w4.heap.size (bcells PH)) := below_setRow ((Below.refl _ _).alloc (Nat.le_refl _) _) (Nat.le_refl _) _
       go_wp2_with (refine wpList_alN (d := 7) z32 zero29 w4.heap.size rfl (wpList_st_row w4.heap.size (bcells PH) rfl rfl 29 z32 hG0 (by rw [size29, bcells_size, hPl]) (by rw [bcells_size, hPl]; rfl) (bcells_one _) ?_); simp only [List.setIfInBounds_toArray, List.set_cons_succ, List.set_cons_zero])
       go_ret
       exact ⟨rfl, hr4.below hb5, hb4w.trans (hb5.mono (Nat.le_trans hbse hs4))⟩)
end Go.Proofs.Ytmhbkilpllgchaa
