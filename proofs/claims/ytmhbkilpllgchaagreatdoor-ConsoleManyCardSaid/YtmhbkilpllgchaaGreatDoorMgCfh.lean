/- Merkle trees: leaves, nodes, the greatest power of two below a number. Merkle trees: two nodes' one. Merkle trees: the root of leaves, both. -/
import Derived.Test.YtmhbkilpllgchaaGreatDoorMgCce
namespace Go.Proofs.YtmhbkilpllgchaaGreatDoor
open Go.RowKit BigFrame
set_option linter.unusedVariables false
set_option linter.unusedSimpArgs false

def leafH (l : List UInt8) : List UInt8 := sha (0 :: l)
def joinH (a b : List UInt8) : List UInt8 := sha (1 :: (a ++ b))
theorem leafH_length (l : List UInt8) : (leafH l).length = 32 := sha_length _
theorem joinH_length (a b : List UInt8) : (joinH a b).length = 32 := sha_length _
/-- The greatest power of two below n: k doubled while its double is below n. -/
def belF : Nat → Nat → Nat → Nat
  | 0, k, _ => k
  | f + 1, k, n => if 2 * k < n then belF f (2 * k) n else k
def belN (n : Nat) : Nat := belF n 1 n
theorem belF_ok : ∀ (f k n : Nat), 1 ≤ k → k < n → 1 ≤ belF f k n ∧ belF f k n < n
  | 0, k, n, h1, h2 => ⟨h1, h2⟩
  | f + 1, k, n, h1, h2 => by
    rw [belF]
    split
    · exact belF_ok f (2 * k) n (by omega) (by assumption)
    · exact ⟨h1, h2⟩
theorem belN_ok {n : Nat} (h : 2 ≤ n) : 1 ≤ belN n ∧ belN n < n := belF_ok n 1 n (Nat.le_refl _) (by omega)
theorem belF_stop : ∀ (f k n : Nat), ¬ 2 * k < n → belF f k n = k
  | 0, k, n, _ => rfl
  | f + 1, k, n, h => by rw [belF, if_neg h]
theorem belF_go {f k n : Nat} (h : 2 * k < n) : belF (f + 1) k n = belF f (2 * k) n := by rw [belF, if_pos h]

set_option maxRecDepth 100000 in
set_option maxHeartbeats 4000000 in
theorem below_any (n : Nat) (h1 : 1 ≤ n) (h2 : n ≤ 100000000) (w : World) : Calls Tryz.prog 79 #[.int .i64 (n : Int)] w fun e w' => e = .returned (.int .i64 (belN n : Int)) ∧ w = w' := by
  obtain ⟨R, eR⟩ : ∃ R, R = belN n := ⟨_, rfl⟩
  rw [← eR]
  have HR := Lib.hid eR
  clear eR
  go_enter Tryz.func79, Tryz.ntmps79
  go_wp2
  go_loopw [3] (fun t3 wr => ∃ (k f : Nat), t3 = .int .i64 (k : Int) ∧ 1 ≤ k ∧ k ≤ n ∧ Hid (R = belF f k n ∧ n ≤ k + f) ∧ wr = w) (fun t3 _ => n - (intOf t3).toNat)
  case atStart => exact ⟨1, n, rfl, by omega, by omega, Lib.hid ⟨HR.out, by omega⟩, rfl⟩
  case round =>
    obtain ⟨k, f, rfl, hk, hkn, HF, rfl⟩ := hrel
    by_cases h : 2 * k < n
    · have hi : (k : Int) < (n : Int) - (k : Int) := by omega
      go_wp2
      obtain ⟨g1, g2⟩ := HF.out
      cases f with
      | zero => omega
      | succ f =>
        rw [belF_go h] at g1
        exact ⟨⟨2 * k, f, by first | (congr 1; done) | (congr 1; omega), by omega, by omega, Lib.hid ⟨g1, by omega⟩, trivial⟩, by simp [intOf]; omega⟩
    · have hi : (n : Int) - (k : Int) ≤ (k : Int) := by omega
      have hR : R = k := by rw [HF.out.1, belF_stop _ _ _ h]
      subst hR
      go_wp2
      go_ret
      exact ⟨rfl, rfl⟩
set_option maxRecDepth 100000 in
set_option maxHeartbeats 4000000 in
theorem cutr_any (n : Nat) (h1 : 1 ≤ n) (h2 : n ≤ 100000000) (w : World) : Calls Tryz.prog 44 #[.int .i64 (n : Int)] w fun e w' => e = .returned (.int .i64 (belN n : Int)) ∧ w = w' := by
  obtain ⟨R, eR⟩ : ∃ R, R = belN n := ⟨_, rfl⟩
  rw [← eR]
  have HR := Lib.hid eR
  clear eR
  go_enter Tryz.func44, Tryz.ntmps44
  go_wp2
  go_loopw [3] (fun t3 wr => ∃ (k f : Nat), t3 = .int .i64 (k : Int) ∧ 1 ≤ k ∧ k ≤ n ∧ Hid (R = belF f k n ∧ n ≤ k + f) ∧ wr = w) (fun t3 _ => n - (intOf t3).toNat)
  case atStart => exact ⟨1, n, rfl, by omega, by omega, Lib.hid ⟨HR.out, by omega⟩, rfl⟩
  case round =>
    obtain ⟨k, f, rfl, hk, hkn, HF, rfl⟩ := hrel
    by_cases h : 2 * k < n
    · have hi : 2 * (k : Int) < (n : Int) := by omega
      go_wp2
      obtain ⟨g1, g2⟩ := HF.out
      cases f with
      | zero => omega
      | succ f =>
        rw [belF_go h] at g1
        exact ⟨⟨2 * k, f, by first | (congr 1; done) | (congr 1; omega), by omega, by omega, Lib.hid ⟨g1, by omega⟩, trivial⟩, by simp [intOf]; omega⟩
    · have hi : (n : Int) ≤ 2 * (k : Int) := by omega
      have hR : R = k := by rw [HF.out.1, belF_stop _ _ _ h]
      subst hR
      go_wp2
      go_ret
      exact ⟨rfl, rfl⟩

set_option maxRecDepth 100000 in
set_option maxHeartbeats 4000000 in
theorem leafm_any (s : ByteArray) (w : World) (hs : s.size ≤ 1000000) : Calls Tryz.prog 32 #[.string s] w fun e w' => e = .returned (.agg (bcells (leafH s.data.toList))) ∧ Below w.heap.size w w' := by
  obtain ⟨T, eT⟩ : ∃ T, (⟨#[0]⟩ : ByteArray) ++ s = T := ⟨_, rfl⟩
  have hTl : T.data.toList = 0 :: s.data.toList := by rw [← eT, ByteArray.data_append, Array.toList_append]; rfl
  have hTs : T.size ≤ 1000001 := by rw [← eT, ByteArray.size_append]; show 1 + s.size ≤ _; omega
  have hadd : ∀ w', (Op.stringOp .add ⟨#[0]⟩ s).run Tryz.prog w' = .ok (.string T) w' := fun w' => add_texts w' _ _ (by show (1 + s.size : Nat) ≤ _; omega) eT
  obtain ⟨A, eA⟩ : ∃ A, A = leafH s.data.toList := ⟨_, rfl⟩
  have hAl : A.length = 32 := by rw [eA]; exact leafH_length _
  have c30 : ∀ w', Calls Tryz.prog 30 #[.string T] w' fun e w'' => e = .returned (.agg (bcells A)) ∧ Below w'.heap.size w' w'' := fun w' => by
    have := ssum_any T w' (by omega)
    rw [shaV, hTl] at this
    rw [eA]
    exact this
  rw [← eA]
  have hL1 : Blk (w.alloc (.cells z32 36)) w.heap.size 36 z32 := Blk.new _ _ _
  have hb1 : Below w.heap.size w (w.alloc (.cells z32 36)) := (Below.refl _ _).alloc (Nat.le_refl _) _
  have HC := Lib.hid (And.intro c30 (And.intro hAl (And.intro hL1 hb1)))
  clear c30 hAl hL1 hb1 eT hTl eA hTs
  go_enter Tryz.func32, Tryz.ntmps32
  go_wp2_with (refine wpList_alN (d := 2) z32 zero29 w.heap.size rfl ?_; simp only [List.setIfInBounds_toArray, List.set_cons_succ, List.set_cons_zero])
  refine (HC.out.1 _).mono ?_
  rintro e w2 ⟨rfl, hb2⟩
  have hL2 := HC.out.2.2.1.below hb2 HC.out.2.2.1.lt
  have hbw := HC.out.2.2.2.trans (hb2.mono HC.out.2.2.2.size)
  go_wp2_with (refine wpList_st_row w.heap.size (bcells A) rfl rfl 36 z32 hL2 (by rw [size29, bcells_size, HC.out.2.1]) (by rw [bcells_size, HC.out.2.1]; rfl) (bcells_one _) ?_)
  exact bodyPost_ret (results_cell_row rfl _ _ w.heap.size 36 (bcells A) (0, 0) _ rfl (hL2.row _) Tryz.underlying36 rfl (by rw [size29, bcells_size, HC.out.2.1])) rfl ⟨rfl, below_setRow hbw (Nat.le_refl _) _⟩
set_option maxRecDepth 100000 in
set_option maxHeartbeats 4000000 in
theorem leafr_any (s : ByteArray) (w : World) (hs : s.size ≤ 1000000) : Calls Tryz.prog 43 #[.string s] w fun e w' => e = .returned (.agg (bcells (leafH s.data.toList))) ∧ Below w.heap.size w w' := by
  obtain ⟨T, eT⟩ : ∃ T, (⟨#[0]⟩ : ByteArray) ++ s = T := ⟨_, rfl⟩
  have hTl : T.data.toList = 0 :: s.data.toList := by rw [← eT, ByteArray.data_append, Array.toList_append]; rfl
  have hTs : T.size ≤ 1000001 := by rw [← eT, ByteArray.size_append]; show 1 + s.size ≤ _; omega
  have hadd : ∀ w', (Op.stringOp .add ⟨#[0]⟩ s).run Tryz.prog w' = .ok (.string T) w' := fun w' => add_texts w' _ _ (by show (1 + s.size : Nat) ≤ _; omega) eT
  obtain ⟨A, eA⟩ : ∃ A, A = leafH s.data.toList := ⟨_, rfl⟩
  have hAl : A.length = 32 := by rw [eA]; exact leafH_length _
  have c30 : ∀ w', Calls Tryz.prog 13 #[.string T] w' fun e w'' => e = .returned (.agg (bcells A)) ∧ Below w'.heap.size w' w'' := fun w' => by
    have := refsha_any T w' (by omega)
    rw [hTl] at this
    rw [eA]
    exact this
  rw [← eA]
  have hL1 : Blk (w.alloc (.cells z32 36)) w.heap.size 36 z32 := Blk.new _ _ _
  have hb1 : Below w.heap.size w (w.alloc (.cells z32 36)) := (Below.refl _ _).alloc (Nat.le_refl _) _
  have HC := Lib.hid (And.intro c30 (And.intro hAl (And.intro hL1 hb1)))
  clear c30 hAl hL1 hb1 eT hTl eA hTs
  go_enter Tryz.func43, Tryz.ntmps43
  go_wp2_with (refine wpList_alN (d := 2) z32 zero29 w.heap.size rfl ?_; simp only [List.setIfInBounds_toArray, List.set_cons_succ, List.set_cons_zero])
  refine (HC.out.1 _).mono ?_
  rintro e w2 ⟨rfl, hb2⟩
  have hL2 := HC.out.2.2.1.below hb2 HC.out.2.2.1.lt
  have hbw := HC.out.2.2.2.trans (hb2.mono HC.out.2.2.2.size)
  go_wp2_with (refine wpList_st_row w.heap.size (bcells A) rfl rfl 36 z32 hL2 (by rw [size29, bcells_size, HC.out.2.1]) (by rw [bcells_size, HC.out.2.1]; rfl) (bcells_one _) ?_)
  exact bodyPost_ret (results_cell_row rfl _ _ w.heap.size 36 (bcells A) (0, 0) _ rfl (hL2.row _) Tryz.underlying36 rfl (by rw [size29, bcells_size, HC.out.2.1])) rfl ⟨rfl, below_setRow hbw (Nat.le_refl _) _⟩
end Go.Proofs.YtmhbkilpllgchaaGreatDoor
namespace Go.Proofs.YtmhbkilpllgchaaGreatDoor
open Go.RowKit BigFrame
set_option linter.unusedVariables false
set_option linter.unusedSimpArgs false

set_option maxRecDepth 100000 in
set_option maxHeartbeats 8000000 in
theorem joinm_any (a b : List UInt8) (ha : a.length = 32) (hb : b.length = 32) (w : World) : Calls Tryz.prog 80 #[.agg (bcells a), .agg (bcells b)] w fun e w' => e = .returned (.agg (bcells (joinH a b))) ∧ Below w.heap.size w w' := by
  obtain ⟨A, eA⟩ : ∃ A, A = joinH a b := ⟨_, rfl⟩
  have hAl : A.length = 32 := by rw [eA]; exact joinH_length _ _
  obtain ⟨SA, eSA⟩ : ∃ S : ByteArray, S = ⟨a.toArray⟩ := ⟨_, rfl⟩
  obtain ⟨SB, eSB⟩ : ∃ S : ByteArray, S = ⟨b.toArray⟩ := ⟨_, rfl⟩
  have hSA : SA.size = 32 := by rw [ba_list, eSA]; simpa using ha
  have hSB : SB.size = 32 := by rw [ba_list, eSB]; simpa using hb
  obtain ⟨T, eT⟩ : ∃ T, (⟨#[1]⟩ : ByteArray) ++ SA = T := ⟨_, rfl⟩
  obtain ⟨U, eU⟩ : ∃ U, T ++ SB = U := ⟨_, rfl⟩
  have hTs : T.size = 33 := by rw [← eT, ByteArray.size_append, hSA]; rfl
  have hUs : U.size = 65 := by rw [← eU, ByteArray.size_append, hTs, hSB]
  have hUl : U.data.toList = 1 :: (a ++ b) := by
    rw [← eU, ByteArray.data_append, Array.toList_append, ← eT, ByteArray.data_append, Array.toList_append, eSA, eSB]
    simp
  have hadd : ∀ w', (Op.stringOp .add ⟨#[1]⟩ SA).run Tryz.prog w' = .ok (.string T) w' := fun w' => add_texts w' _ _ (by rw [hSA]; show (1 + 32 : Nat) ≤ _; decide) eT
  have hadd2 : ∀ w', (Op.stringOp .add T SB).run Tryz.prog w' = .ok (.string U) w' := fun w' => add_texts w' _ _ (by rw [hTs, hSB]; decide) eU
  have c30 : ∀ w', Calls Tryz.prog 30 #[.string U] w' fun e w'' => e = .returned (.agg (bcells A)) ∧ Below w'.heap.size w' w'' := fun w' => by
    have := ssum_any U w' (by omega)
    rw [shaV, hUl] at this
    rw [eA]
    exact this
  rw [← eA]
  have hX0 : Blk (w.alloc (.cells (bcells a) 36)) w.heap.size 36 (bcells a) := Blk.new _ _ _
  have s0 : (w.alloc (.cells (bcells a) 36)).heap.size = w.heap.size + 1 := by simp
  have hX1 : Blk ((w.alloc (.cells (bcells a) 36)).alloc (.cells (bcells b) 36)) (w.heap.size + 1) 36 (bcells b) := by rw [← s0]; exact Blk.new _ _ _
  have s1 : ((w.alloc (.cells (bcells a) 36)).alloc (.cells (bcells b) 36)).heap.size = w.heap.size + 2 := by simp
  obtain ⟨w1, e1⟩ : ∃ w1, w1 = (w.alloc (.cells (bcells a) 36)).alloc (.cells (bcells b) 36) := ⟨_, rfl⟩
  have hX0' : Blk w1 w.heap.size 36 (bcells a) := by rw [e1]; exact hX0.alloc _
  have hb1 : Below w.heap.size w w1 := by rw [e1]; exact ((Below.refl _ _).alloc (Nat.le_refl _) _).alloc (by simp) _
  rw [← e1] at hX1 s1
  have hL2 : Blk (w1.alloc (.cells z32 36)) (w.heap.size + 2) 36 z32 := by rw [← s1]; exact Blk.new _ _ _
  obtain ⟨w2, e2⟩ : ∃ w2, w2 = w1.alloc (.cells z32 36) := ⟨_, rfl⟩
  rw [← e2] at hL2
  have hb2 : Below w.heap.size w w2 := by rw [e2]; exact hb1.alloc hb1.size _
  have hA2 : Blk w2 w.heap.size 36 (bcells a) := by rw [e2]; exact hX0'.alloc _
  have hB2 : Blk w2 (w.heap.size + 1) 36 (bcells b) := by rw [e2]; exact hX1.alloc _
  have hcA : ∀ x, (convert 27 9 (.slice (some ⟨w.heap.size, 0, none⟩) 32 32)).run Tryz.prog (later w2 x) = .ok (.string SA) (later w2 x) := fun x => by
    rw [eSA]; exact conv32 _ _ a ha (hA2.below (later_below w2 x) hA2.lt)
  have hcB : ∀ x, (convert 27 9 (.slice (some ⟨w.heap.size + 1, 0, none⟩) 32 32)).run Tryz.prog (later w2 x) = .ok (.string SB) (later w2 x) := fun x => by
    rw [eSB]; exact conv32 _ _ b hb (hB2.below (later_below w2 x) hB2.lt)
  have cS : ∀ x, Calls Tryz.prog 30 #[.string U] (later w2 x) fun e w'' => e = .returned (.agg (bcells A)) ∧ ∃ k, w'' = later w2 k := fun x => later_call (c30 _)
  have hLx : ∀ x, Blk (later w2 x) (w.heap.size + 2) 36 z32 := fun x => hL2.below (later_below w2 x) hL2.lt
  have hbx : ∀ x, Below w.heap.size w (later w2 x) := fun x => hb2.trans ((later_below w2 x).mono hb2.size)
  have HC := Lib.hid (And.intro cS (And.intro hAl (And.intro hLx (And.intro hbx (And.intro e2 (And.intro e1 s1))))))
  clear cS hAl hLx hbx e2 e1 s1 hX0 s0 hX1 hX0' hb1 hL2 hb2 hA2 hB2 c30 eA eSA eSB hSA hSB eT eU hTs hUs hUl ha hb
  go_enter Tryz.func80, Tryz.ntmps80
  go_upto_region 1 with (refine wpList_alN (d := 4) z32 zero29 (w.heap.size + 2) (by simp) ?_; simp only [List.setIfInBounds_toArray, List.set_cons_succ, List.set_cons_zero])
  rw [← HC.out.2.2.2.2.2.1, ← HC.out.2.2.2.2.1]
  refine wp_region_later_tail 7 (by kernel_rfl) (by kernel_rfl) ?_
  simp only [List.take_succ_cons, List.take_zero, List.drop_succ_cons, List.drop_zero]
  repeat (go_big_quiet_step ((go_at_call 30; exact HC.out.1 _)))
  refine wpQuiet_nil ?_
  rintro _ ⟨x, rfl⟩
  have hLx := HC.out.2.2.1 x
  have hbx := HC.out.2.2.2.1 x
  go_wp2_with (refine wpList_st_row (w.heap.size + 2) (bcells A) rfl rfl 36 z32 hLx (by rw [size29, bcells_size, HC.out.2.1]) (by rw [bcells_size, HC.out.2.1]; rfl) (bcells_one _) ?_)
  exact bodyPost_ret (results_cell_row rfl _ _ (w.heap.size + 2) 36 (bcells A) (0, 0) _ rfl (hLx.row _) Tryz.underlying36 rfl (by rw [size29, bcells_size, HC.out.2.1])) rfl ⟨rfl, below_setRow hbx (by omega) _⟩
set_option maxRecDepth 100000 in
set_option maxHeartbeats 8000000 in
theorem overr_any (a b : List UInt8) (ha : a.length = 32) (hb : b.length = 32) (w : World) : Calls Tryz.prog 45 #[.agg (bcells a), .agg (bcells b)] w fun e w' => e = .returned (.agg (bcells (joinH a b))) ∧ Below w.heap.size w w' := by
  obtain ⟨A, eA⟩ : ∃ A, A = joinH a b := ⟨_, rfl⟩
  have hAl : A.length = 32 := by rw [eA]; exact joinH_length _ _
  obtain ⟨SA, eSA⟩ : ∃ S : ByteArray, S = ⟨a.toArray⟩ := ⟨_, rfl⟩
  obtain ⟨SB, eSB⟩ : ∃ S : ByteArray, S = ⟨b.toArray⟩ := ⟨_, rfl⟩
  have hSA : SA.size = 32 := by rw [ba_list, eSA]; simpa using ha
  have hSB : SB.size = 32 := by rw [ba_list, eSB]; simpa using hb
  obtain ⟨T, eT⟩ : ∃ T, (⟨#[1]⟩ : ByteArray) ++ SA = T := ⟨_, rfl⟩
  obtain ⟨U, eU⟩ : ∃ U, T ++ SB = U := ⟨_, rfl⟩
  have hTs : T.size = 33 := by rw [← eT, ByteArray.size_append, hSA]; rfl
  have hUs : U.size = 65 := by rw [← eU, ByteArray.size_append, hTs, hSB]
  have hUl : U.data.toList = 1 :: (a ++ b) := by
    rw [← eU, ByteArray.data_append, Array.toList_append, ← eT, ByteArray.data_append, Array.toList_append, eSA, eSB]
    simp
  have hadd : ∀ w', (Op.stringOp .add ⟨#[1]⟩ SA).run Tryz.prog w' = .ok (.string T) w' := fun w' => add_texts w' _ _ (by rw [hSA]; show (1 + 32 : Nat) ≤ _; decide) eT
  have hadd2 : ∀ w', (Op.stringOp .add T SB).run Tryz.prog w' = .ok (.string U) w' := fun w' => add_texts w' _ _ (by rw [hTs, hSB]; decide) eU
  have c30 : ∀ w', Calls Tryz.prog 13 #[.string U] w' fun e w'' => e = .returned (.agg (bcells A)) ∧ Below w'.heap.size w' w'' := fun w' => by
    have := refsha_any U w' (by omega)
    rw [hUl] at this
    rw [eA]
    exact this
  rw [← eA]
  have hX0 : Blk (w.alloc (.cells (bcells a) 36)) w.heap.size 36 (bcells a) := Blk.new _ _ _
  have s0 : (w.alloc (.cells (bcells a) 36)).heap.size = w.heap.size + 1 := by simp
  have hX1 : Blk ((w.alloc (.cells (bcells a) 36)).alloc (.cells (bcells b) 36)) (w.heap.size + 1) 36 (bcells b) := by rw [← s0]; exact Blk.new _ _ _
  have s1 : ((w.alloc (.cells (bcells a) 36)).alloc (.cells (bcells b) 36)).heap.size = w.heap.size + 2 := by simp
  obtain ⟨w1, e1⟩ : ∃ w1, w1 = (w.alloc (.cells (bcells a) 36)).alloc (.cells (bcells b) 36) := ⟨_, rfl⟩
  have hX0' : Blk w1 w.heap.size 36 (bcells a) := by rw [e1]; exact hX0.alloc _
  have hb1 : Below w.heap.size w w1 := by rw [e1]; exact ((Below.refl _ _).alloc (Nat.le_refl _) _).alloc (by simp) _
  rw [← e1] at hX1 s1
  have hL2 : Blk (w1.alloc (.cells z32 36)) (w.heap.size + 2) 36 z32 := by rw [← s1]; exact Blk.new _ _ _
  obtain ⟨w2, e2⟩ : ∃ w2, w2 = w1.alloc (.cells z32 36) := ⟨_, rfl⟩
  rw [← e2] at hL2
  have hb2 : Below w.heap.size w w2 := by rw [e2]; exact hb1.alloc hb1.size _
  have hA2 : Blk w2 w.heap.size 36 (bcells a) := by rw [e2]; exact hX0'.alloc _
  have hB2 : Blk w2 (w.heap.size + 1) 36 (bcells b) := by rw [e2]; exact hX1.alloc _
  have hcA : ∀ x, (later w2 x).rangeAt w.heap.size 0 (bcells a).toList := fun x => range_of_blk (hA2.below (later_below w2 x) hA2.lt)
  have hcB : ∀ x, (later w2 x).rangeAt (w.heap.size + 1) 0 (bcells b).toList := fun x => range_of_blk (hB2.below (later_below w2 x) hB2.lt)
  have cA : ∀ x, Calls Tryz.prog 72 #[.agg (bcells a)] (later w2 x) fun e w'' => e = .returned (.string SA) ∧ ∃ k, w'' = later w2 k := fun x => by rw [eSA]; exact later_call (t_any a ha _)
  have cB : ∀ x, Calls Tryz.prog 72 #[.agg (bcells b)] (later w2 x) fun e w'' => e = .returned (.string SB) ∧ ∃ k, w'' = later w2 k := fun x => by rw [eSB]; exact later_call (t_any b hb _)
  have HR := Lib.hid (And.intro hcA (And.intro hcB (And.intro cA (And.intro cB (And.intro ha hb)))))
  clear hcA hcB cA cB
  have cS : ∀ x, Calls Tryz.prog 13 #[.string U] (later w2 x) fun e w'' => e = .returned (.agg (bcells A)) ∧ ∃ k, w'' = later w2 k := fun x => later_call (c30 _)
  have hLx : ∀ x, Blk (later w2 x) (w.heap.size + 2) 36 z32 := fun x => hL2.below (later_below w2 x) hL2.lt
  have hbx : ∀ x, Below w.heap.size w (later w2 x) := fun x => hb2.trans ((later_below w2 x).mono hb2.size)
  have HC := Lib.hid (And.intro cS (And.intro hAl (And.intro hLx (And.intro hbx (And.intro e2 (And.intro e1 s1))))))
  clear cS hAl hLx hbx e2 e1 s1 hX0 s0 hX1 hX0' hb1 hL2 hb2 hA2 hB2 c30 eA eSA eSB hSA hSB eT eU hTs hUs hUl ha hb
  go_enter Tryz.func45, Tryz.ntmps45
  go_upto_region 1 with (refine wpList_alN (d := 4) z32 zero29 (w.heap.size + 2) (by simp) ?_; simp only [List.setIfInBounds_toArray, List.set_cons_succ, List.set_cons_zero])
  rw [← HC.out.2.2.2.2.2.1, ← HC.out.2.2.2.2.1]
  refine wp_region_later_tail 7 (by kernel_rfl) (by kernel_rfl) ?_
  simp only [List.take_succ_cons, List.take_zero, List.drop_succ_cons, List.drop_zero]
  repeat (first
    | (refine wpQuiet_ld_g (d := 5) w.heap.size 0 (bcells a).toList rfl rfl (by rintro _ ⟨x, rfl⟩; exact HR.out.1 x) Tryz.underlying36 rfl (by rw [size29, Array.length_toList, bcells_size, HR.out.2.2.2.2.1]) ?_; simp only [List.setIfInBounds_toArray, List.set_cons_succ, List.set_cons_zero, Array.toArray_toList])
    | (refine wpQuiet_ld_g (d := 8) (w.heap.size + 1) 0 (bcells b).toList rfl rfl (by rintro _ ⟨x, rfl⟩; exact HR.out.2.1 x) Tryz.underlying36 rfl (by rw [size29, Array.length_toList, bcells_size, HR.out.2.2.2.2.2]) ?_; simp only [List.setIfInBounds_toArray, List.set_cons_succ, List.set_cons_zero, Array.toArray_toList])
    | (go_big_quiet_step ((first | (go_at_call 13; exact HC.out.1 _) | (go_at_call 72; with_reducible first | exact HR.out.2.2.1 _ | exact HR.out.2.2.2.1 _)))))
  refine wpQuiet_nil ?_
  rintro _ ⟨x, rfl⟩
  have hLx := HC.out.2.2.1 x
  have hbx := HC.out.2.2.2.1 x
  go_wp2_with (refine wpList_st_row (w.heap.size + 2) (bcells A) rfl rfl 36 z32 hLx (by rw [size29, bcells_size, HC.out.2.1]) (by rw [bcells_size, HC.out.2.1]; rfl) (bcells_one _) ?_)
  exact bodyPost_ret (results_cell_row rfl _ _ (w.heap.size + 2) 36 (bcells A) (0, 0) _ rfl (hLx.row _) Tryz.underlying36 rfl (by rw [size29, bcells_size, HC.out.2.1])) rfl ⟨rfl, below_setRow hbx (by omega) _⟩

/-- The root of leaves. -/
def rootF : Nat → List (List UInt8) → List UInt8
  | 0, _ => sha []
  | _ + 1, [] => sha []
  | _ + 1, [x] => leafH x
  | f + 1, x :: y :: xs => joinH (rootF f ((x :: y :: xs).take (belN (xs.length + 2)))) (rootF f ((x :: y :: xs).drop (belN (xs.length + 2))))
def rootL (xs : List (List UInt8)) : List UInt8 := rootF xs.length xs
theorem rootF_length : ∀ (f : Nat) (xs : List (List UInt8)), (rootF f xs).length = 32
  | 0, _ => sha_length _
  | _ + 1, [] => sha_length _
  | _ + 1, [x] => sha_length _
  | f + 1, x :: y :: xs => joinH_length _ _
theorem rootF_eq : ∀ (f g : Nat) (xs : List (List UInt8)), xs.length ≤ f → xs.length ≤ g → rootF f xs = rootF g xs
  | 0, 0, _, _, _ => rfl
  | 0, g + 1, [], _, _ => rfl
  | 0, _, _ :: _, h, _ => by simp at h
  | f + 1, 0, [], _, _ => rfl
  | _, 0, _ :: _, _, h => by simp at h
  | f + 1, g + 1, [], _, _ => rfl
  | f + 1, g + 1, [x], _, _ => rfl
  | f + 1, g + 1, x :: y :: xs, h1, h2 => by
    simp only [List.length_cons] at h1 h2
    have hb := belN_ok (n := xs.length + 2) (by omega)
    rw [rootF, rootF, rootF_eq f g _ (by rw [List.length_take]; simp only [List.length_cons]; omega) (by rw [List.length_take]; simp only [List.length_cons]; omega),
      rootF_eq f g _ (by rw [List.length_drop]; simp only [List.length_cons]; omega) (by rw [List.length_drop]; simp only [List.length_cons]; omega)]
theorem rootL_one (x : List UInt8) : rootL [x] = leafH x := rfl
theorem rootL_more (xs : List (List UInt8)) (h : 2 ≤ xs.length) : rootL xs = joinH (rootL (xs.take (belN xs.length))) (rootL (xs.drop (belN xs.length))) := by
  match xs, h with
  | x :: y :: xs, _ =>
    have hb := belN_ok (n := xs.length + 2) (by omega)
    show rootF (xs.length + 1 + 1) (x :: y :: xs) = _
    rw [rootF]
    show joinH (rootF _ _) (rootF _ _) = joinH (rootF _ ((x :: y :: xs).take (belN (xs.length + 2)))) (rootF _ ((x :: y :: xs).drop (belN (xs.length + 2))))
    congr 1
    · exact rootF_eq _ _ _ (by rw [List.length_take]; simp only [List.length_cons]; omega) (Nat.le_refl _)
    · exact rootF_eq _ _ _ (by rw [List.length_drop]; simp only [List.length_cons]; omega) (Nat.le_refl _)
theorem rootL_length (xs : List (List UInt8)) : (rootL xs).length = 32 := rootF_length _ _
end Go.Proofs.YtmhbkilpllgchaaGreatDoor
namespace Go.Proofs.YtmhbkilpllgchaaGreatDoor
open Go.RowKit BigFrame
set_option linter.unusedVariables false
set_option linter.unusedSimpArgs false

/-- From ⟨g, o⟩ on lie these texts. -/
def LeavesAt (w : World) (g o : Nat) (xs : List ByteArray) : Prop := ∀ j s, xs[j]? = some s → w.cell? ⟨g, o + j, none⟩ = some (.string s)

set_option maxRecDepth 100000 in
set_option maxHeartbeats 8000000 in
theorem rootm_nil (p : Option Addr) (c : Nat) (w : World) : Calls Tryz.prog 64 #[.slice p 0 c] w fun e w' => e = .returned (.agg (bcells (rootL []))) ∧ Below w.heap.size w w' := by
  obtain ⟨A, eA⟩ : ∃ A, A = rootL [] := ⟨_, rfl⟩
  have hAl : A.length = 32 := by rw [eA]; exact rootL_length _
  have c30 : ∀ w', Calls Tryz.prog 30 #[.string ⟨#[]⟩] w' fun e w'' => e = .returned (.agg (bcells A)) ∧ Below w'.heap.size w' w'' := fun w' => by
    have := ssum_any ⟨#[]⟩ w' (by decide)
    rw [eA]
    exact this
  rw [← eA]
  have hL1 : Blk (w.alloc (.cells z32 36)) w.heap.size 36 z32 := Blk.new _ _ _
  have hb1 : Below w.heap.size w (w.alloc (.cells z32 36)) := (Below.refl _ _).alloc (Nat.le_refl _) _
  have HC := Lib.hid (And.intro c30 (And.intro hAl (And.intro hL1 hb1)))
  clear c30 hAl hL1 hb1 eA
  go_enter Tryz.func64, Tryz.ntmps64
  go_wp2_with (refine wpList_alN (d := 2) z32 zero29 w.heap.size rfl ?_; simp only [List.setIfInBounds_toArray, List.set_cons_succ, List.set_cons_zero])
  refine (HC.out.1 _).mono ?_
  rintro e w2 ⟨rfl, hb2⟩
  have hL2 := HC.out.2.2.1.below hb2 HC.out.2.2.1.lt
  have hbw := HC.out.2.2.2.trans (hb2.mono HC.out.2.2.2.size)
  go_wp2_with (refine wpList_st_row w.heap.size (bcells A) rfl rfl 36 z32 hL2 (by rw [size29, bcells_size, HC.out.2.1]) (by rw [bcells_size, HC.out.2.1]; rfl) (bcells_one _) ?_)
  exact bodyPost_ret (results_cell_row rfl _ _ w.heap.size 36 (bcells A) (0, 0) _ rfl (hL2.row _) Tryz.underlying36 rfl (by rw [size29, bcells_size, HC.out.2.1])) rfl ⟨rfl, below_setRow hbw (Nat.le_refl _) _⟩
set_option maxRecDepth 100000 in
set_option maxHeartbeats 8000000 in
theorem rootm_some : ∀ (f : Nat) (xs : List ByteArray) (hf : xs.length ≤ f) (h0 : xs ≠ []) (g o c : Nat) (w : World) (hx : LeavesAt w g o xs) (hg : g < w.heap.size) (hc : xs.length ≤ c) (hc2 : c ≤ 9223372036854775807) (hz : ∀ s ∈ xs, s.size ≤ 1000000) (hn : xs.length ≤ 1000000),
    Calls Tryz.prog 64 #[.slice (some ⟨g, o, none⟩) xs.length c] w fun e w' => e = .returned (.agg (bcells (rootL (xs.map (·.data.toList))))) ∧ Below w.heap.size w w'
  | 0, xs, hf, h0, _, _, _, _, _, _, _, _, _, _ => absurd (List.length_eq_zero_iff.1 (by omega)) h0
  | f + 1, xs, hf, h0, g, o, c, w, hx, hg, hc, hc2, hz, hn => by
    obtain ⟨A, eA⟩ : ∃ A, A = rootL (xs.map (·.data.toList)) := ⟨_, rfl⟩
    have hAl : A.length = 32 := by rw [eA]; exact rootL_length _
    have hL1 : Blk (w.alloc (.cells z32 36)) w.heap.size 36 z32 := Blk.new _ _ _
    have hb1 : Below w.heap.size w (w.alloc (.cells z32 36)) := (Below.refl _ _).alloc (Nat.le_refl _) _
    obtain ⟨n, en⟩ : ∃ n, n = xs.length := ⟨_, rfl⟩
    have hpos : 0 < n := by rw [en]; exact List.length_pos_iff.2 h0
    by_cases h1 : n = 1
    · obtain ⟨s, es⟩ : ∃ s, xs = [s] := List.length_eq_one_iff.1 (by omega)
      have hcell : w.cell? ⟨g, o, none⟩ = some (.string s) := hx 0 s (by rw [es]; rfl)
      have c32 : ∀ w', Calls Tryz.prog 32 #[.string s] w' fun e w'' => e = .returned (.agg (bcells A)) ∧ Below w'.heap.size w' w'' := fun w' => by
        have := leafm_any s w' (hz s (by rw [es]; simp))
        rw [eA, es]
        exact this
      have hca : (w.alloc (.cells z32 36)).cell? ⟨g, o, none⟩ = some (.string s) := (hb1.cell (p := ⟨g, o, none⟩) hg).trans hcell
      have HC := Lib.hid (And.intro c32 (And.intro hAl (And.intro hL1 hb1)))
      rw [← eA, ← en, h1]
      clear c32 hAl hL1 hb1 eA es en hx hz hcell h1 hpos
      go_enter Tryz.func64, Tryz.ntmps64
      go_wp2_with (refine wpList_alN (d := 2) z32 zero29 w.heap.size rfl ?_; simp only [List.setIfInBounds_toArray, List.set_cons_succ, List.set_cons_zero])
      refine (HC.out.1 _).mono ?_
      rintro e w2 ⟨rfl, hb2⟩
      have hL2 := HC.out.2.2.1.below hb2 HC.out.2.2.1.lt
      have hbw := HC.out.2.2.2.trans (hb2.mono HC.out.2.2.2.size)
      go_wp2_with (refine wpList_st_row w.heap.size (bcells A) rfl rfl 36 z32 hL2 (by rw [size29, bcells_size, HC.out.2.1]) (by rw [bcells_size, HC.out.2.1]; rfl) (bcells_one _) ?_)
      exact bodyPost_ret (results_cell_row rfl _ _ w.heap.size 36 (bcells A) (0, 0) _ rfl (hL2.row _) Tryz.underlying36 rfl (by rw [size29, bcells_size, HC.out.2.1])) rfl ⟨rfl, below_setRow hbw (Nat.le_refl _) _⟩
    · obtain ⟨hk1, hk2⟩ := belN_ok (n := n) (by omega)
      obtain ⟨k, ek⟩ : ∃ k, k = belN n := ⟨_, rfl⟩
      have c79 : ∀ w', Calls Tryz.prog 79 #[.int .i64 (n : Int)] w' fun e w'' => e = .returned (.int .i64 (k : Int)) ∧ w' = w'' := fun w' => by rw [ek]; exact below_any n (by omega) (by omega) w'
      rw [← ek] at hk1 hk2
      obtain ⟨w1, e1⟩ : ∃ w1, w1 = w.alloc (.cells z32 36) := ⟨_, rfl⟩
      have hL1' : Blk w1 w.heap.size 36 z32 := by rw [e1]; exact hL1
      have hb1' : Below w.heap.size w w1 := by rw [e1]; exact hb1
      have hx1 : LeavesAt w1 g o xs := fun j s hj => (hb1'.cell (p := ⟨g, _, none⟩) hg).trans (hx j s hj)
      have hg1 : g < w1.heap.size := Nat.lt_of_lt_of_le hg hb1'.size
      obtain ⟨H1, eH1⟩ : ∃ H, H = rootL ((xs.take k).map (·.data.toList)) := ⟨_, rfl⟩
      obtain ⟨H2, eH2⟩ : ∃ H, H = rootL ((xs.drop k).map (·.data.toList)) := ⟨_, rfl⟩
      have hH1 : H1.length = 32 := by rw [eH1]; exact rootL_length _
      have hH2 : H2.length = 32 := by rw [eH2]; exact rootL_length _
      have hAJ : A = joinH H1 H2 := by
        rw [eA, rootL_more _ (by rw [List.length_map]; omega), List.length_map, ← en, ← ek, eH1, eH2, List.map_take, List.map_drop]
      have hl1 : (xs.take k).length = k := by rw [List.length_take]; omega
      have hl2 : (xs.drop k).length = n - k := by rw [List.length_drop]; omega
      have cA : ∀ x, Calls Tryz.prog 64 #[.slice (some ⟨g, o, none⟩) k c] (later w1 x) fun e w'' => e = .returned (.agg (bcells H1)) ∧ ∃ q, w'' = later w1 q := fun x => by
        have := rootm_some f (xs.take k) (by omega) (fun e => by rw [e] at hl1; simp at hl1; omega) g o c (later w1 x) (fun j s hj => ((later_below w1 x).cell (p := ⟨g, _, none⟩) hg1).trans (hx1 j s (by
          rw [List.getElem?_take] at hj; split at hj
          · exact hj
          · cases hj))) (Nat.lt_of_lt_of_le hg1 (later_size w1 x)) (by omega) hc2 (fun s hs => hz s (List.mem_of_mem_take hs)) (by omega)
        rw [hl1, ← eH1] at this
        exact later_call this
      have cB : ∀ x, Calls Tryz.prog 64 #[.slice (some ⟨g, o + k, none⟩) (n - k) (c - k)] (later w1 x) fun e w'' => e = .returned (.agg (bcells H2)) ∧ ∃ q, w'' = later w1 q := fun x => by
        have := rootm_some f (xs.drop k) (by omega) (fun e => by rw [e] at hl2; simp at hl2; omega) g (o + k) (c - k) (later w1 x) (fun j s hj => ((later_below w1 x).cell (p := ⟨g, _, none⟩) hg1).trans (by
          rw [List.getElem?_drop] at hj
          rw [Nat.add_assoc]
          exact hx1 (k + j) s hj)) (Nat.lt_of_lt_of_le hg1 (later_size w1 x)) (by omega) (by omega) (fun s hs => hz s (List.mem_of_mem_drop hs)) (by omega)
        rw [hl2, ← eH2] at this
        exact later_call this
      have cJ : ∀ x, Calls Tryz.prog 80 #[.agg (bcells H1), .agg (bcells H2)] (later w1 x) fun e w'' => e = .returned (.agg (bcells A)) ∧ ∃ q, w'' = later w1 q := fun x => by rw [hAJ]; exact later_call (joinm_any H1 H2 hH1 hH2 _)
      have hLx : ∀ x, Blk (later w1 x) w.heap.size 36 z32 := fun x => hL1'.below (later_below w1 x) hL1'.lt
      have hbx : ∀ x, Below w.heap.size w (later w1 x) := fun x => hb1'.trans ((later_below w1 x).mono hb1'.size)
      have hkn : k ≤ n := by omega
      have hnc : n ≤ c := by omega
      have HC := Lib.hid (And.intro c79 (And.intro hAl (And.intro hLx (And.intro hbx (And.intro e1 (And.intro cA (And.intro cB cJ)))))))
      rw [← eA, ← en]
      have hn6 : n ≤ 1000000 := by omega
      clear c79 hAl hLx hbx e1 cA cB cJ hL1 hb1 hL1' hb1' eA en hx hz hx1 eH1 eH2 hAJ hl1 hl2 ek hH1 hH2 hn hf hc
      go_enter Tryz.func64, Tryz.ntmps64
      go_upto_region 6 with (refine wpList_alN (d := 2) z32 zero29 w.heap.size rfl ?_; simp only [List.setIfInBounds_toArray, List.set_cons_succ, List.set_cons_zero])
      rw [← HC.out.2.2.2.2.1]
      go_upto_region 7 with (go_at_call 79; refine (HC.out.1 _).mono ?_; rintro e w' ⟨rfl, rfl⟩)
      refine wp_region_later_tail 9 (by kernel_rfl) (by kernel_rfl) ?_
      simp only [List.take_succ_cons, List.take_zero, List.drop_succ_cons, List.drop_zero]
      repeat (go_big_quiet_step ((first | (go_at_call 80; exact HC.out.2.2.2.2.2.2.2 _) | (go_at_call 64; with_reducible first | exact HC.out.2.2.2.2.2.1 _ | exact HC.out.2.2.2.2.2.2.1 _))))
      refine wpQuiet_nil ?_
      rintro _ ⟨x, rfl⟩
      have hLx := HC.out.2.2.1 x
      have hbx := HC.out.2.2.2.1 x
      go_wp2_with (refine wpList_st_row w.heap.size (bcells A) rfl rfl 36 z32 hLx (by rw [size29, bcells_size, HC.out.2.1]) (by rw [bcells_size, HC.out.2.1]; rfl) (bcells_one _) ?_)
      exact bodyPost_ret (results_cell_row rfl _ _ w.heap.size 36 (bcells A) (0, 0) _ rfl (hLx.row _) Tryz.underlying36 rfl (by rw [size29, bcells_size, HC.out.2.1])) rfl ⟨rfl, below_setRow hbx (Nat.le_refl _) _⟩

set_option maxRecDepth 100000 in
set_option maxHeartbeats 8000000 in
theorem rootr_nil (p : Option Addr) (c : Nat) (w : World) : Calls Tryz.prog 23 #[.slice p 0 c] w fun e w' => e = .returned (.agg (bcells (rootL []))) ∧ Below w.heap.size w w' := by
  obtain ⟨A, eA⟩ : ∃ A, A = rootL [] := ⟨_, rfl⟩
  have hAl : A.length = 32 := by rw [eA]; exact rootL_length _
  have c30 : ∀ w', Calls Tryz.prog 13 #[.string ⟨#[]⟩] w' fun e w'' => e = .returned (.agg (bcells A)) ∧ Below w'.heap.size w' w'' := fun w' => by
    have := refsha_any ⟨#[]⟩ w' (by decide)
    rw [eA]
    exact this
  rw [← eA]
  have hL1 : Blk (w.alloc (.cells z32 36)) w.heap.size 36 z32 := Blk.new _ _ _
  have hb1 : Below w.heap.size w (w.alloc (.cells z32 36)) := (Below.refl _ _).alloc (Nat.le_refl _) _
  have HC := Lib.hid (And.intro c30 (And.intro hAl (And.intro hL1 hb1)))
  clear c30 hAl hL1 hb1 eA
  go_enter Tryz.func23, Tryz.ntmps23
  go_wp2_with (refine wpList_alN (d := 2) z32 zero29 w.heap.size rfl ?_; simp only [List.setIfInBounds_toArray, List.set_cons_succ, List.set_cons_zero])
  refine (HC.out.1 _).mono ?_
  rintro e w2 ⟨rfl, hb2⟩
  have hL2 := HC.out.2.2.1.below hb2 HC.out.2.2.1.lt
  have hbw := HC.out.2.2.2.trans (hb2.mono HC.out.2.2.2.size)
  go_wp2_with (refine wpList_st_row w.heap.size (bcells A) rfl rfl 36 z32 hL2 (by rw [size29, bcells_size, HC.out.2.1]) (by rw [bcells_size, HC.out.2.1]; rfl) (bcells_one _) ?_)
  exact bodyPost_ret (results_cell_row rfl _ _ w.heap.size 36 (bcells A) (0, 0) _ rfl (hL2.row _) Tryz.underlying36 rfl (by rw [size29, bcells_size, HC.out.2.1])) rfl ⟨rfl, below_setRow hbw (Nat.le_refl _) _⟩
set_option maxRecDepth 100000 in
set_option maxHeartbeats 8000000 in
theorem rootr_some : ∀ (f : Nat) (xs : List ByteArray) (hf : xs.length ≤ f) (h0 : xs ≠ []) (g o c : Nat) (w : World) (hx : LeavesAt w g o xs) (hg : g < w.heap.size) (hc : xs.length ≤ c) (hc2 : c ≤ 9223372036854775807) (hz : ∀ s ∈ xs, s.size ≤ 1000000) (hn : xs.length ≤ 1000000),
    Calls Tryz.prog 23 #[.slice (some ⟨g, o, none⟩) xs.length c] w fun e w' => e = .returned (.agg (bcells (rootL (xs.map (·.data.toList))))) ∧ Below w.heap.size w w'
  | 0, xs, hf, h0, _, _, _, _, _, _, _, _, _, _ => absurd (List.length_eq_zero_iff.1 (by omega)) h0
  | f + 1, xs, hf, h0, g, o, c, w, hx, hg, hc, hc2, hz, hn => by
    obtain ⟨A, eA⟩ : ∃ A, A = rootL (xs.map (·.data.toList)) := ⟨_, rfl⟩
    have hAl : A.length = 32 := by rw [eA]; exact rootL_length _
    have hL1 : Blk (w.alloc (.cells z32 36)) w.heap.size 36 z32 := Blk.new _ _ _
    have hb1 : Below w.heap.size w (w.alloc (.cells z32 36)) := (Below.refl _ _).alloc (Nat.le_refl _) _
    obtain ⟨n, en⟩ : ∃ n, n = xs.length := ⟨_, rfl⟩
    have hpos : 0 < n := by rw [en]; exact List.length_pos_iff.2 h0
    by_cases h1 : n = 1
    · obtain ⟨s, es⟩ : ∃ s, xs = [s] := List.length_eq_one_iff.1 (by omega)
      have hcell : w.cell? ⟨g, o, none⟩ = some (.string s) := hx 0 s (by rw [es]; rfl)
      have c32 : ∀ w', Calls Tryz.prog 43 #[.string s] w' fun e w'' => e = .returned (.agg (bcells A)) ∧ Below w'.heap.size w' w'' := fun w' => by
        have := leafr_any s w' (hz s (by rw [es]; simp))
        rw [eA, es]
        exact this
      have hca : (w.alloc (.cells z32 36)).cell? ⟨g, o, none⟩ = some (.string s) := (hb1.cell (p := ⟨g, o, none⟩) hg).trans hcell
      have HC := Lib.hid (And.intro c32 (And.intro hAl (And.intro hL1 hb1)))
      rw [← eA, ← en, h1]
      clear c32 hAl hL1 hb1 eA es en hx hz hcell h1 hpos
      go_enter Tryz.func23, Tryz.ntmps23
      go_wp2_with (refine wpList_alN (d := 2) z32 zero29 w.heap.size rfl ?_; simp only [List.setIfInBounds_toArray, List.set_cons_succ, List.set_cons_zero])
      refine (HC.out.1 _).mono ?_
      rintro e w2 ⟨rfl, hb2⟩
      have hL2 := HC.out.2.2.1.below hb2 HC.out.2.2.1.lt
      have hbw := HC.out.2.2.2.trans (hb2.mono HC.out.2.2.2.size)
      go_wp2_with (refine wpList_st_row w.heap.size (bcells A) rfl rfl 36 z32 hL2 (by rw [size29, bcells_size, HC.out.2.1]) (by rw [bcells_size, HC.out.2.1]; rfl) (bcells_one _) ?_)
      exact bodyPost_ret (results_cell_row rfl _ _ w.heap.size 36 (bcells A) (0, 0) _ rfl (hL2.row _) Tryz.underlying36 rfl (by rw [size29, bcells_size, HC.out.2.1])) rfl ⟨rfl, below_setRow hbw (Nat.le_refl _) _⟩
    · obtain ⟨hk1, hk2⟩ := belN_ok (n := n) (by omega)
      obtain ⟨k, ek⟩ : ∃ k, k = belN n := ⟨_, rfl⟩
      have c79 : ∀ w', Calls Tryz.prog 44 #[.int .i64 (n : Int)] w' fun e w'' => e = .returned (.int .i64 (k : Int)) ∧ w' = w'' := fun w' => by rw [ek]; exact cutr_any n (by omega) (by omega) w'
      rw [← ek] at hk1 hk2
      obtain ⟨w1, e1⟩ : ∃ w1, w1 = w.alloc (.cells z32 36) := ⟨_, rfl⟩
      have hL1' : Blk w1 w.heap.size 36 z32 := by rw [e1]; exact hL1
      have hb1' : Below w.heap.size w w1 := by rw [e1]; exact hb1
      have hx1 : LeavesAt w1 g o xs := fun j s hj => (hb1'.cell (p := ⟨g, _, none⟩) hg).trans (hx j s hj)
      have hg1 : g < w1.heap.size := Nat.lt_of_lt_of_le hg hb1'.size
      obtain ⟨H1, eH1⟩ : ∃ H, H = rootL ((xs.take k).map (·.data.toList)) := ⟨_, rfl⟩
      obtain ⟨H2, eH2⟩ : ∃ H, H = rootL ((xs.drop k).map (·.data.toList)) := ⟨_, rfl⟩
      have hH1 : H1.length = 32 := by rw [eH1]; exact rootL_length _
      have hH2 : H2.length = 32 := by rw [eH2]; exact rootL_length _
      have hAJ : A = joinH H1 H2 := by
        rw [eA, rootL_more _ (by rw [List.length_map]; omega), List.length_map, ← en, ← ek, eH1, eH2, List.map_take, List.map_drop]
      have hl1 : (xs.take k).length = k := by rw [List.length_take]; omega
      have hl2 : (xs.drop k).length = n - k := by rw [List.length_drop]; omega
      have cA : ∀ x, Calls Tryz.prog 23 #[.slice (some ⟨g, o, none⟩) k c] (later w1 x) fun e w'' => e = .returned (.agg (bcells H1)) ∧ ∃ q, w'' = later w1 q := fun x => by
        have := rootr_some f (xs.take k) (by omega) (fun e => by rw [e] at hl1; simp at hl1; omega) g o c (later w1 x) (fun j s hj => ((later_below w1 x).cell (p := ⟨g, _, none⟩) hg1).trans (hx1 j s (by
          rw [List.getElem?_take] at hj; split at hj
          · exact hj
          · cases hj))) (Nat.lt_of_lt_of_le hg1 (later_size w1 x)) (by omega) hc2 (fun s hs => hz s (List.mem_of_mem_take hs)) (by omega)
        rw [hl1, ← eH1] at this
        exact later_call this
      have cB : ∀ x, Calls Tryz.prog 23 #[.slice (some ⟨g, o + k, none⟩) (n - k) (c - k)] (later w1 x) fun e w'' => e = .returned (.agg (bcells H2)) ∧ ∃ q, w'' = later w1 q := fun x => by
        have := rootr_some f (xs.drop k) (by omega) (fun e => by rw [e] at hl2; simp at hl2; omega) g (o + k) (c - k) (later w1 x) (fun j s hj => ((later_below w1 x).cell (p := ⟨g, _, none⟩) hg1).trans (by
          rw [List.getElem?_drop] at hj
          rw [Nat.add_assoc]
          exact hx1 (k + j) s hj)) (Nat.lt_of_lt_of_le hg1 (later_size w1 x)) (by omega) (by omega) (fun s hs => hz s (List.mem_of_mem_drop hs)) (by omega)
        rw [hl2, ← eH2] at this
        exact later_call this
      have cJ : ∀ x, Calls Tryz.prog 45 #[.agg (bcells H1), .agg (bcells H2)] (later w1 x) fun e w'' => e = .returned (.agg (bcells A)) ∧ ∃ q, w'' = later w1 q := fun x => by rw [hAJ]; exact later_call (overr_any H1 H2 hH1 hH2 _)
      have hLx : ∀ x, Blk (later w1 x) w.heap.size 36 z32 := fun x => hL1'.below (later_below w1 x) hL1'.lt
      have hbx : ∀ x, Below w.heap.size w (later w1 x) := fun x => hb1'.trans ((later_below w1 x).mono hb1'.size)
      have hkn : k ≤ n := by omega
      have hnc : n ≤ c := by omega
      have HC := Lib.hid (And.intro c79 (And.intro hAl (And.intro hLx (And.intro hbx (And.intro e1 (And.intro cA (And.intro cB cJ)))))))
      rw [← eA, ← en]
      have hn6 : n ≤ 1000000 := by omega
      clear c79 hAl hLx hbx e1 cA cB cJ hL1 hb1 hL1' hb1' eA en hx hz hx1 eH1 eH2 hAJ hl1 hl2 ek hH1 hH2 hn hf hc
      go_enter Tryz.func23, Tryz.ntmps23
      go_upto_region 6 with (refine wpList_alN (d := 2) z32 zero29 w.heap.size rfl ?_; simp only [List.setIfInBounds_toArray, List.set_cons_succ, List.set_cons_zero])
      rw [← HC.out.2.2.2.2.1]
      go_upto_region 7 with (go_at_call 44; refine (HC.out.1 _).mono ?_; rintro e w' ⟨rfl, rfl⟩)
      refine wp_region_later_tail 9 (by kernel_rfl) (by kernel_rfl) ?_
      simp only [List.take_succ_cons, List.take_zero, List.drop_succ_cons, List.drop_zero]
      repeat (go_big_quiet_step ((first | (go_at_call 45; exact HC.out.2.2.2.2.2.2.2 _) | (go_at_call 23; with_reducible first | exact HC.out.2.2.2.2.2.1 _ | exact HC.out.2.2.2.2.2.2.1 _))))
      refine wpQuiet_nil ?_
      rintro _ ⟨x, rfl⟩
      have hLx := HC.out.2.2.1 x
      have hbx := HC.out.2.2.2.1 x
      go_wp2_with (refine wpList_st_row w.heap.size (bcells A) rfl rfl 36 z32 hLx (by rw [size29, bcells_size, HC.out.2.1]) (by rw [bcells_size, HC.out.2.1]; rfl) (bcells_one _) ?_)
      exact bodyPost_ret (results_cell_row rfl _ _ w.heap.size 36 (bcells A) (0, 0) _ rfl (hLx.row _) Tryz.underlying36 rfl (by rw [size29, bcells_size, HC.out.2.1])) rfl ⟨rfl, below_setRow hbx (Nat.le_refl _) _⟩
end Go.Proofs.YtmhbkilpllgchaaGreatDoor
