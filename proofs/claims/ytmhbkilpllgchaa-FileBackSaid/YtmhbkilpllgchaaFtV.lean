/- The walk of Builds. -/
import Derived.Test.YtmhbkilpllgchaaFtT
namespace Go.Proofs.Ytmhbkilpllgchaa
open Go.RowKit BigFrame
set_option linter.unusedVariables false
set_option linter.unusedSimpArgs false

def hashF (s : ByteArray) : List UInt8 := if s.size ≤ 4096 then rootH s.data.toList else zeros32
def objsF (s : ByteArray) : List ByteArray := if s.size ≤ 4096 then buildO s.data.toList else []
def errF (s : ByteArray) : Int := if s.size ≤ 4096 then 0 else 1200
theorem hashF_length (s : ByteArray) : (hashF s).length = 32 := by
  unfold hashF
  split
  · exact objH_length _
  · rw [zeros32, List.length_replicate]
theorem buildO_few (L : List UInt8) (h : L.length ≤ 4096) : (buildO L).length ≤ 73 := by
  have h1 := buildH_few L h
  have h2 := buildJ_few L h
  have h3 := foldl_onceA_length (buildB L) []
  have h4 := foldl_onceA_length (buildI L) ((buildB L).foldl onceA [])
  have h5 := onceA_length ((buildI L).foldl onceA ((buildB L).foldl onceA [])) (buildR L)
  rw [buildH, List.length_map] at h1
  rw [buildJ, List.length_map] at h2
  rw [buildO]
  simp only [List.length_nil] at h3
  omega
theorem objsF_few (s : ByteArray) : (objsF s).length ≤ 73 := by
  unfold objsF
  split
  · rename_i h
    exact buildO_few _ h
  · exact Nat.zero_le _
theorem build_full (s : ByteArray) (w : World) (hs : s.size ≤ 140737488351232) : Calls Try.prog 66 #[.string s] w fun e w' => ∃ p m c, e = .returned (.tuple #[.agg (bcells (hashF s)), .slice p m c, .int .i64 (errF s)]) ∧ m = (objsF s).length ∧
    w'.ownsRow w.heap.size 9 1 (.slice p m c) m ((objsF s).map SV) ∧ Below w.heap.size w w' := by
  by_cases h : s.size ≤ 4096
  · have := build_any s w h
    simpa only [hashF, objsF, errF, if_pos h] using this
  · rw [hashF, objsF, errF, if_neg h, if_neg h, if_neg h]
    refine (build_big s w (by omega) hs).mono ?_
    rintro e w' ⟨rfl, hb⟩
    exact ⟨none, 0, 0, rfl, rfl, World.ownsRow_nil _ _ _ _, hb⟩
theorem bfile_full (s : ByteArray) (w : World) (hs : s.size ≤ 140737488351232) : Calls Try.prog 67 #[.string s] w fun e w' => ∃ p m c, e = .returned (.tuple #[.agg (bcells (hashF s)), .slice p m c, .int .i64 (errF s)]) ∧ m = (objsF s).length ∧
    w'.ownsRow w.heap.size 9 1 (.slice p m c) m ((objsF s).map SV) ∧ Below w.heap.size w w' := by
  by_cases h : s.size ≤ 4096
  · have := bfile_any s w h
    simpa only [hashF, objsF, errF, if_pos h] using this
  · rw [hashF, objsF, errF, if_neg h, if_neg h, if_neg h]
    refine (bfile_big s w (by omega) hs).mono ?_
    rintro e w' ⟨rfl, hb⟩
    exact ⟨none, 0, 0, rfl, rfl, World.ownsRow_nil _ _ _ _, hb⟩

set_option maxRecDepth 100000 in
set_option maxHeartbeats 4000000 in
theorem builds_any (s : ByteArray) (w : World) (hs : s.size ≤ 140737488351232) : Calls Try.prog 17 #[.string s] w fun e w' => e = .returned (.bool true) ∧ Below w.heap.size w w' := by
  have c66 := fun w' => build_full s w' hs
  have c67 := fun w' => bfile_full s w' hs
  have hAl := hashF_length s
  have hOn := objsF_few s
  obtain ⟨A, eA⟩ : ∃ A, A = hashF s := ⟨_, rfl⟩
  obtain ⟨O, eO⟩ : ∃ O, O = objsF s := ⟨_, rfl⟩
  obtain ⟨E, eE⟩ : ∃ E, E = errF s := ⟨_, rfl⟩
  rw [← eA, ← eO, ← eE] at c66 c67
  rw [← eA] at hAl
  rw [← eO] at hOn
  have heq : ∀ w', (binOp .eql 29 (.agg (bcells A)) (.agg (bcells A))).run Try.prog w' = .ok (.bool true) w' := fun w' => by rw [eql_bytes w' A A hAl hAl]; simp
  have heq2 : ∀ w', (Op.equalIn 10000 29 (.agg (bcells A)) (.agg (bcells A))).run Try.prog w' = .ok true w' := fun w' => by rw [run_equal_bytes w' A A hAl hAl]; simp
  have C := Lib.hid (And.intro c66 (And.intro c67 (And.intro hAl hOn)))
  clear c66 c67 hAl hOn eA eO eE hs
  go_enter Try.func17, Try.ntmps17
  go_wp2_with fail
  refine (C.out.1 w).mono ?_
  rintro e w1 ⟨p, m, c, rfl, hm, hR1, hb1⟩
  have hA0 : Blk (w1.alloc (.cells z32 29)) w1.heap.size 29 z32 := Blk.new _ _ _
  have hA1 : Blk ((w1.alloc (.cells z32 29)).setRow w1.heap.size (bcells A)) w1.heap.size 29 (bcells A) := hA0.row _
  have hbx : Below w1.heap.size w1 ((w1.alloc (.cells z32 29)).setRow w1.heap.size (bcells A)) := below_setRow ((Below.refl _ _).alloc (Nat.le_refl _) _) (Nat.le_refl _) _
  have H1 := Lib.hid (And.intro (row_below hR1 hbx) (And.intro (hb1.trans (hbx.mono hb1.size)) hm))
  clear hR1 hb1 hbx hm
  go_upto_region 2 with (refine wpList_alN (d := 3) z32 zero29 w1.heap.size rfl (wpList_st_row w1.heap.size (bcells A) rfl rfl 29 z32 hA0 (by rw [size29, bcells_size, C.out.2.2.1]) (by rw [bcells_size, C.out.2.2.1]; rfl) (bcells_one _) ?_); simp only [List.setIfInBounds_toArray, List.set_cons_succ, List.set_cons_zero])
  obtain ⟨w2, e2⟩ : ∃ w2, w2 = (w1.alloc (.cells z32 29)).setRow w1.heap.size (bcells A) := ⟨_, rfl⟩
  obtain ⟨G, eG⟩ : ∃ G, G = w1.heap.size := ⟨_, rfl⟩
  rw [← e2] at hA1 H1 ⊢
  rw [← eG] at hA1 ⊢
  clear e2 eG hA0
  go_wp2_with fail
  refine (C.out.2.1 w2).mono ?_
  rintro e w3 ⟨q, n, d, rfl, hn, hR3, hb3⟩
  have hA3 := hA1.below hb3 hA1.lt
  have hR1 := row_below H1.out.1 hb3
  have hb := H1.out.2.1.trans (hb3.mono H1.out.2.1.size)
  have hB0 : Blk (w3.alloc (.cells z32 29)) w3.heap.size 29 z32 := Blk.new _ _ _
  have hB4 : Blk ((w3.alloc (.cells z32 29)).setRow w3.heap.size (bcells A)) w3.heap.size 29 (bcells A) := hB0.row _
  have hbx : Below w3.heap.size w3 ((w3.alloc (.cells z32 29)).setRow w3.heap.size (bcells A)) := below_setRow ((Below.refl _ _).alloc (Nat.le_refl _) _) (Nat.le_refl _) _
  have hA4 := hA3.below hbx hA3.lt
  have H3 := Lib.hid (And.intro (row_below hR1 hbx) (And.intro (row_below hR3 hbx) (And.intro (hb.trans (hbx.mono hb.size)) (And.intro H1.out.2.2 hn))))
  clear hR1 hR3 hb hbx hb3 hA3 hn H1 hA1
  go_upto_region 3 with (refine wpList_alN (d := 6) z32 zero29 w3.heap.size rfl (wpList_st_row w3.heap.size (bcells A) rfl rfl 29 z32 hB0 (by rw [size29, bcells_size, C.out.2.2.1]) (by rw [bcells_size, C.out.2.2.1]; rfl) (bcells_one _) ?_); simp only [List.setIfInBounds_toArray, List.set_cons_succ, List.set_cons_zero])
  obtain ⟨w4, e4⟩ : ∃ w4, w4 = (w3.alloc (.cells z32 29)).setRow w3.heap.size (bcells A) := ⟨_, rfl⟩
  obtain ⟨G2, eG2⟩ : ∃ G2, G2 = w3.heap.size := ⟨_, rfl⟩
  rw [← e4] at hA4 hB4 H3 ⊢
  rw [← eG2] at hB4 ⊢
  clear e4 eG2 hB0
  have c48 := same_any p q O O c d w4 (strs_own H3.out.1) (strs_own H3.out.2.1) (by have := C.out.2.2.2; omega)
  rw [decide_eq_true rfl, ← H3.out.2.2.2.1] at c48
  have hnm : n = m := by rw [H3.out.2.2.2.1, H3.out.2.2.2.2]
  subst hnm
  have C48 := Lib.hid c48
  clear c48
  go_wp2_with (first
    | (refine wpList_ld_row (d := 21) G (bcells A) rfl 29 hA4 Try.underlying29 rfl (by rw [size29, bcells_size, C.out.2.2.1]) ?_; simp only [List.setIfInBounds_toArray, List.set_cons_succ, List.set_cons_zero])
    | (refine wpList_ld_row (d := 22) G2 (bcells A) rfl 29 hB4 Try.underlying29 rfl (by rw [size29, bcells_size, C.out.2.2.1]) ?_; simp only [List.setIfInBounds_toArray, List.set_cons_succ, List.set_cons_zero])
    | (go_at_call 48; refine C48.out.mono ?_; rintro e w5 ⟨rfl, k, rfl⟩)
    | (go_at_call 39; refine (num_any2 _ _).mono ?_; rintro e w' ⟨rfl, rfl⟩)
    | (go_at_call 68; refine (awake12_any _).mono ?_; rintro e w6 ⟨rfl, hb6⟩))
  go_ret
  exact ⟨rfl, (H3.out.2.2.1.trans ((below_drewN (Below.refl _ w4) k).mono H3.out.2.2.1.size)).trans (hb6.mono H3.out.2.2.1.size)⟩
end Go.Proofs.Ytmhbkilpllgchaa
