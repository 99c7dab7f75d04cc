/- The reference's BuildFile. -/
import Derived.Test.YtmhbkilpllgchaaGreatDoorFtO
import Derived.Laws.DeepStrings4
namespace Go.Proofs.YtmhbkilpllgchaaGreatDoor
open Go.RowKit BigFrame
set_option linter.unusedVariables false
set_option linter.unusedSimpArgs false

theorem cutL_get {α : Type} {k : Nat} (hk : 0 < k) : ∀ (j : Nat) (l : List α), (k * j < l.length → (cutL k l)[j]? = some ((l.drop (k * j)).take k)) ∧ (l.length ≤ k * j → (cutL k l).length ≤ j)
  | 0, l => by
    refine ⟨fun h => ?_, fun h => ?_⟩
    · have : l ≠ [] := fun e => by rw [e] at h; simp at h
      rw [cutL_cons hk l this]
      simp
    · have : l = [] := List.length_eq_zero_iff.1 (by simpa using h)
      rw [this, cutL_nil]; exact Nat.le_refl _
  | j + 1, l => by
    have e2 : k * (j + 1) = k + k * j := by rw [Nat.mul_add]; omega
    by_cases e : l = []
    · subst e
      rw [cutL_nil]
      exact ⟨fun h => by simp at h, fun _ => Nat.zero_le _⟩
    · rw [cutL_cons hk l e]
      obtain ⟨h1, h2⟩ := cutL_get hk j (l.drop k)
      rw [List.length_drop] at h1 h2
      refine ⟨fun h => ?_, fun h => ?_⟩
      · rw [List.getElem?_cons_succ, h1 (by omega), List.drop_drop, ← e2]
      · rw [List.length_cons]
        have := h2 (by omega)
        omega
theorem row_below {w w' : World} {base : Nat} {e : TypeId} {size n : Nat} {v : Value} {xs : List Value} (h : w.ownsRow base e size v n xs) (hb : Below w.heap.size w w') : w'.ownsRow base e size v n xs :=
  h.kept (grown_below hb (Nat.le_refl _) none) (by cases v.ownBlock <;> simp)

set_option maxRecDepth 100000 in
set_option maxHeartbeats 4000000 in
theorem bfile_big (s : ByteArray) (w : World) (hb : 4096 < s.size) (hs : s.size ≤ 140737488351232) : Calls Tryz.prog 48 #[.string s] w fun e w' => e = .returned (.tuple #[.agg (bcells zeros32), .slice none 0 0, .int .i64 1200]) ∧ Below w.heap.size w w' := by
  have hL : Blk (w.alloc (.cells z32 36)) w.heap.size 36 z32 := Blk.new _ _ _
  have hb1 : Below w.heap.size w ((w.alloc (.cells z32 36)).setRow w.heap.size z32) := below_setRow ((Below.refl _ _).alloc (Nat.le_refl _) _) (Nat.le_refl _) _
  have hb' : (4096 : Int) < (s.size : Int) := by omega
  clear hb
  go_enter Tryz.func48, Tryz.ntmps48
  go_wp2_with (first
    | (refine wpList_alN (d := 2) z32 zero29 w.heap.size rfl ?_; simp only [List.setIfInBounds_toArray, List.set_cons_succ, List.set_cons_zero])
    | (refine wpList_bd (d := 16) z32 (by kernel_rfl) (wpList_st_row w.heap.size z32 rfl rfl 36 z32 hL (by rw [size29]; rfl) rfl (by kernel_rfl) ?_); simp only [List.setIfInBounds_toArray, List.set_cons_succ, List.set_cons_zero]))
  exact bodyPost_ret (results_row_slots rfl _ _ w.heap.size 36 z32 (0, 0) _ rfl (hL.row _) Tryz.underlying36 rfl (by rw [size29]; rfl)) rfl ⟨by rw [zeros32, ← z32_cells]; rfl, hb1⟩

theorem bT_add (Y : ByteArray) (l : List UInt8) (h : Y.data.toList = l) : (⟨#[66]⟩ : ByteArray) ++ Y = bT l := by
  apply ba_ext3
  rw [ByteArray.data_append, Array.toList_append, h, bT]
  simp



set_option maxRecDepth 100000 in
set_option maxHeartbeats 20000000 in
theorem bfile_any (s : ByteArray) (w : World) (hb : s.size ≤ 4096) : Calls Tryz.prog 48 #[.string s] w fun e w' => ∃ p m c, e = .returned (.tuple #[.agg (bcells (rootH s.data.toList)), .slice p m c, .int .i64 0]) ∧ m = (buildO s.data.toList).length ∧
    w'.ownsRow w.heap.size 9 1 (.slice p m c) m ((buildO s.data.toList).map SV) ∧ Below w.heap.size w w' := by
  obtain ⟨i0, hi0, hz0, hz1, hz2⟩ := info_parts info29
  obtain ⟨L, eL⟩ : ∃ L, L = s.data.toList := ⟨_, rfl⟩
  have hLs : L.length = s.size := by rw [eL]; rfl
  rw [← eL]
  obtain ⟨RH, eRH⟩ : ∃ R, R = rootH L := ⟨_, rfl⟩
  obtain ⟨OB, eOB⟩ : ∃ O, O = buildO L := ⟨_, rfl⟩
  rw [← eRH, ← eOB]
  have EE := Lib.hid (And.intro eL (And.intro eRH (And.intro eOB hLs)))
  clear eL eRH eOB hLs
  obtain ⟨S, eS⟩ : ∃ S, S = s.size := ⟨_, rfl⟩
  have hS : (S : Int) ≤ 4096 := by omega
  have ES := Lib.hid eS
  have hsz : s.size = S := eS.symm
  clear eS
  obtain ⟨M, eM⟩ : ∃ M, M = (cutL 64 L).length := ⟨_, rfl⟩
  have hcl := cutL_len (k := 64) (by decide) L.length L (Nat.le_refl _)
  have hM64 : M ≤ 64 := by have := EE.out.2.2.2; omega
  have EM := Lib.hid (And.intro eM hcl)
  clear eM hcl
  have hZ0 : Blk (w.alloc (.cells z32 36)) w.heap.size 36 z32 := Blk.new _ _ _
  have hb1 : Below w.heap.size w (w.alloc (.cells z32 36)) := (Below.refl _ _).alloc (Nat.le_refl _) _
  have hs1 : (w.alloc (.cells z32 36)).heap.size = w.heap.size + 1 := by simp
  have H1 := Lib.hid (And.intro hZ0 (And.intro hb1 hs1))
  clear hZ0 hb1 hs1
  have hszi : (s.size : Int) = (S : Int) := by omega
  clear hb
  go_enter Tryz.func48, Tryz.ntmps48
  go_wp2_with (refine wpList_alN (d := 2) z32 zero29 w.heap.size rfl ?_; simp only [List.setIfInBounds_toArray, List.set_cons_succ, List.set_cons_zero])
  obtain ⟨w1, e1⟩ : ∃ w1, w1 = w.alloc (.cells z32 36) := ⟨_, rfl⟩
  rw [← e1] at H1 ⊢
  clear e1
  go_loopw [5, 6, 8, 9] (fun t5 t6 t8 t9 wr => ∃ (j a n1 c1 c2 : Nat) (p1 p2 : Option Addr) (all : List ByteArray) (xs : List Value), t5 = .slice p1 n1 c1 ∧ t6 = .slice p2 j c2 ∧ t8 = .int .i64 (a : Int) ∧ j ≤ M ∧ n1 ≤ j ∧ Hid (a = 64 * j) ∧
    wr.ownsRow w1.heap.size 9 1 (.slice p1 n1 c1) n1 (all.map SV) ∧ Hid (all = ((buildB L).take j).foldl onceA []) ∧ wr.ownsRow w1.heap.size 36 32 (.slice p2 j c2) j xs ∧ Hid (xs = hcells ((buildH L).take j)) ∧ Below w1.heap.size w1 wr) (fun _ _ t8 _ _ => s.size - (intOf t8).toNat)
  case atStart => exact ⟨0, 0, 0, 0, 0, none, none, [], [], rfl, rfl, rfl, by omega, by omega, Lib.hid rfl, World.ownsRow_nil _ _ _ _, Lib.hid rfl, World.ownsRow_nil _ _ _ _, Lib.hid rfl, Below.refl _ _⟩
  case round =>
    obtain ⟨j, a, n1, c1, c2, p1, p2, all, xs, rfl, rfl, rfl, hj, hn1, HA, hR1, HAL, hR2, HXS, hb⟩ := hrel
    by_cases h1 : a < S
    · have ha := HA.out
      have hLS : L.length = S := by rw [EE.out.2.2.2, hsz]
      obtain ⟨ch, ech⟩ : ∃ ch, ch = (L.drop (64 * j)).take 64 := ⟨_, rfl⟩
      have hget := (cutL_get (k := 64) (by decide) j L).1 (by omega)
      rw [← ech] at hget
      have hjM : j < M := by rw [EM.out.1]; exact (List.getElem?_eq_some_iff.1 hget).1
      have hBj : (buildB L)[j]? = some (bT ch) := by rw [buildB, List.getElem?_map, hget]; rfl
      have hHj : (buildH L)[j]? = some (objH (bT ch)) := by rw [buildH, List.getElem?_map, hBj]; rfl
      obtain ⟨X, eX⟩ : ∃ X, X = bT ch := ⟨_, rfl⟩
      rw [← eX] at hBj hHj
      obtain ⟨H, eH⟩ : ∃ H, H = objH X := ⟨_, rfl⟩
      rw [← eH] at hHj
      obtain ⟨h, eh⟩ : ∃ h, h = min S (a + 64) := ⟨_, rfl⟩
      obtain ⟨Y, eY⟩ : ∃ Y, Y = s.extract a h := ⟨_, rfl⟩
      have hYl : Y.data.toList = ch := by
        rw [eY, ByteArray.data_extract, Array.toList_extract, List.extract_eq_take_drop, ← EE.out.1, ech, ← ha]
        have hdl : (L.drop a).length = S - a := by rw [List.length_drop, hLS]
        rcases Nat.lt_or_ge S (a + 64) with g | g
        · rw [List.take_of_length_le (by omega), List.take_of_length_le (by omega)]
        · rw [show h - a = 64 by omega]
      have hYs : Y.size ≤ 64 := by rw [ba_list, hYl, ech, List.length_take]; omega
      have hadd : ∀ w', (Op.stringOp .add ⟨#[66]⟩ Y).run Tryz.prog w' = .ok (.string X) w' := fun w' => add_texts w' _ _ (by show (1 + Y.size : Nat) ≤ 9223372036854775807; omega) (by rw [eX]; exact bT_add Y ch hYl)
      have hXs : X.size ≤ 140737488351232 := by rw [eX, ← bT_add Y ch hYl, ByteArray.size_append]; show (1 + Y.size : Nat) ≤ _; omega
      have hsl : ∀ (z : Int) w', z = (h : Int) → (Instr.slice 9 (.string s) (some (.int .i64 (a : Int))) (some (.int .i64 z)) none).run Tryz.prog w' = .ok (.string Y) w' := fun z w' hz => by
        rw [run_slice_string_if w' 9 s .i64 .i64 (a : Int) z Tryz.underlying9, if_pos (by omega), if_pos (by omega), eY, hz]
        rfl
      have hhh : (h = S ∧ (S : Int) < (a : Int) + 64) ∨ (h = a + 64 ∧ (a : Int) + 64 < (S : Int)) ∨ (h = S ∧ h = a + 64 ∧ (S : Int) ≤ (a : Int) + 64 ∧ (a : Int) + 64 ≤ (S : Int)) := by omega
      have c87 := once_any hR1 (by omega) hb.size X
      have hal2 : onceA all X = ((buildB L).take (j + 1)).foldl onceA [] := by rw [List.take_add_one, hBj, List.foldl_append, ← HAL.out]; rfl
      have hxs2 : xs ++ (bcells H).toList = hcells ((buildH L).take (j + 1)) := by rw [List.take_add_one, hHj, hcells, List.flatMap_append, HXS.out, hcells]; simp
      have hHl : H.length = 32 := by rw [eH]; exact objH_length X
      have c58 : ∀ w', Calls Tryz.prog 21 #[.string X] w' fun e w'' => e = .returned (.agg (bcells H)) ∧ Below w'.heap.size w' w'' := fun w' => by rw [eH]; exact obj_any X w' hXs
      have HC := Lib.hid (And.intro c87 (And.intro c58 (And.intro hal2 (And.intro hxs2 (And.intro hHl (And.intro hR1 (And.intro hR2 hb)))))))
      have HS2 := Lib.hid (And.intro ha hsl)
      clear c87 c58 hal2 hxs2 hHl ha hsl hLS ech hget hBj hHj eX eH eh eY hYl hYs hXs hR1 hR2 hb
      rcases hhh with ⟨e1, e2⟩ | ⟨e1, e2⟩ | ⟨e1, e3, e2, e4⟩
      all_goals
        have hslS : ∀ w', h = S → (Instr.slice 9 (.string s) (some (.int .i64 (a : Int))) (some (.int .i64 (S : Int))) none).run Tryz.prog w' = .ok (.string Y) w' := fun w' e => HS2.out.2 _ _ (by rw [e])
        have hslA : ∀ w', h = a + 64 → (Instr.slice 9 (.string s) (some (.int .i64 (a : Int))) (some (.int .i64 ((a : Int) + 64))) none).run Tryz.prog w' = .ok (.string Y) w' := fun w' e => HS2.out.2 _ _ (by rw [e]; rfl)
      · have hslx := fun w' => hslS w' e1
        clear hslS hslA e1
        go_wp2_with fail
        refine HC.out.1.mono ?_
        rintro e w2 ⟨p3, m3, c3, rfl, hm3, hR3, hg2, hat2⟩
        have hb2 : Below w1.heap.size w1 w2 := HC.out.2.2.2.2.2.2.2.grown hg2 HC.out.2.2.2.2.2.2.2.size (fun g e => (HC.out.2.2.2.2.2.1.lt g e).1)
        have hR4 := HC.out.2.2.2.2.2.2.1.kept hg2 (rows_apart HC.out.2.2.2.2.2.2.1 HC.out.2.2.2.2.2.1 (by decide))
        have hm3b : m3 ≤ j + 1 := by have h1 := onceA_length all X; have h2 := HC.out.2.2.2.2.2.1.1; rw [List.length_map, Nat.mul_one] at h2; omega
        have H3 := Lib.hid (And.intro hm3 (And.intro hR3 (And.intro hR4 hb2)))
        clear hm3 hR3 hR4 hb2 hg2 hat2
        go_wp2_with fail
        refine (HC.out.2.1 w2).mono ?_
        rintro e w3 ⟨rfl, hb3⟩
        have hR5 := row_below H3.out.2.1 hb3
        have hR6 := row_below H3.out.2.2.1 hb3
        have hb5 : Below w1.heap.size w1 w3 := H3.out.2.2.2.trans (hb3.mono H3.out.2.2.2.size)
        have hR7 := hR5.alloc (.cells (bcells H) 36)
        have hR8 := hR6.alloc (.cells (bcells H) 36)
        have hba : Below w1.heap.size w1 (w3.alloc (.cells (bcells H) 36)) := hb5.alloc hb5.size _
        have hsrc := src_hash HC.out.2.2.2.2.1 (Blk.new w3 36 (bcells H))
        have b1 : j + 1 ≤ maxLen := by simp only [maxLen]; omega
        have b2 : (j + 1) * 32 ≤ 140737488355328 := by omega
        have HQ := Lib.hid (And.intro hR8 (And.intro hsrc (And.intro hba hR7)))
        clear hR5 hR6 hb5 hR7 hR8 hba hsrc hb3
        go_wp2_with (first
          | (refine wpList_bs (d := 38) #[(0, .agg (bcells H))] _ (by rw [List.map_toArray]; rfl) (buildS82 H HC.out.2.2.2.2.1 w3) ?_; simp only [List.setIfInBounds_toArray, List.set_cons_succ, List.set_cons_zero])
          | (at_builtin; refine wpList_app _ w1.heap.size 36 i0 (.agg z32) 32 32 under82 hi0 hz0 hz1 hz2 rfl (.slice p2 j c2) j xs rfl HQ.out.1 _ 1 _ rfl HQ.out.2.1 b1 b2 HQ.out.2.2.1.size ?_; intro v9 w9 hR9 hg9 hat9 _; obtain ⟨p9, c9, rfl⟩ := row_slice hR9; simp only [List.setIfInBounds_toArray, List.set_cons_succ, List.set_cons_zero]))
        have hR10 := HQ.out.2.2.2.kept hg9 (rows_apart HQ.out.2.2.2 HQ.out.1 (by decide))
        have hb10 := HQ.out.2.2.1.grown hg9 HQ.out.2.2.1.size (fun g e => (HQ.out.1.lt g e).1)
        exact ⟨⟨j + 1, a + 64, m3, c3, c9, p3, p9, onceA all X, _, rfl, rfl, by go_num, by omega, by omega, Lib.hid (by have := HS2.out.1; omega), hR10, Lib.hid HC.out.2.2.1, hR9, Lib.hid HC.out.2.2.2.1, hb10⟩, by simp [intOf]; omega⟩
      · have hslx := fun w' => hslA w' e1
        clear hslS hslA e1
        go_wp2_with fail
        refine HC.out.1.mono ?_
        rintro e w2 ⟨p3, m3, c3, rfl, hm3, hR3, hg2, hat2⟩
        have hb2 : Below w1.heap.size w1 w2 := HC.out.2.2.2.2.2.2.2.grown hg2 HC.out.2.2.2.2.2.2.2.size (fun g e => (HC.out.2.2.2.2.2.1.lt g e).1)
        have hR4 := HC.out.2.2.2.2.2.2.1.kept hg2 (rows_apart HC.out.2.2.2.2.2.2.1 HC.out.2.2.2.2.2.1 (by decide))
        have hm3b : m3 ≤ j + 1 := by have h1 := onceA_length all X; have h2 := HC.out.2.2.2.2.2.1.1; rw [List.length_map, Nat.mul_one] at h2; omega
        have H3 := Lib.hid (And.intro hm3 (And.intro hR3 (And.intro hR4 hb2)))
        clear hm3 hR3 hR4 hb2 hg2 hat2
        go_wp2_with fail
        refine (HC.out.2.1 w2).mono ?_
        rintro e w3 ⟨rfl, hb3⟩
        have hR5 := row_below H3.out.2.1 hb3
        have hR6 := row_below H3.out.2.2.1 hb3
        have hb5 : Below w1.heap.size w1 w3 := H3.out.2.2.2.trans (hb3.mono H3.out.2.2.2.size)
        have hR7 := hR5.alloc (.cells (bcells H) 36)
        have hR8 := hR6.alloc (.cells (bcells H) 36)
        have hba : Below w1.heap.size w1 (w3.alloc (.cells (bcells H) 36)) := hb5.alloc hb5.size _
        have hsrc := src_hash HC.out.2.2.2.2.1 (Blk.new w3 36 (bcells H))
        have b1 : j + 1 ≤ maxLen := by simp only [maxLen]; omega
        have b2 : (j + 1) * 32 ≤ 140737488355328 := by omega
        have HQ := Lib.hid (And.intro hR8 (And.intro hsrc (And.intro hba hR7)))
        clear hR5 hR6 hb5 hR7 hR8 hba hsrc hb3
        go_wp2_with (first
          | (refine wpList_bs (d := 38) #[(0, .agg (bcells H))] _ (by rw [List.map_toArray]; rfl) (buildS82 H HC.out.2.2.2.2.1 w3) ?_; simp only [List.setIfInBounds_toArray, List.set_cons_succ, List.set_cons_zero])
          | (at_builtin; refine wpList_app _ w1.heap.size 36 i0 (.agg z32) 32 32 under82 hi0 hz0 hz1 hz2 rfl (.slice p2 j c2) j xs rfl HQ.out.1 _ 1 _ rfl HQ.out.2.1 b1 b2 HQ.out.2.2.1.size ?_; intro v9 w9 hR9 hg9 hat9 _; obtain ⟨p9, c9, rfl⟩ := row_slice hR9; simp only [List.setIfInBounds_toArray, List.set_cons_succ, List.set_cons_zero]))
        have hR10 := HQ.out.2.2.2.kept hg9 (rows_apart HQ.out.2.2.2 HQ.out.1 (by decide))
        have hb10 := HQ.out.2.2.1.grown hg9 HQ.out.2.2.1.size (fun g e => (HQ.out.1.lt g e).1)
        exact ⟨⟨j + 1, a + 64, m3, c3, c9, p3, p9, onceA all X, _, rfl, rfl, by go_num, by omega, by omega, Lib.hid (by have := HS2.out.1; omega), hR10, Lib.hid HC.out.2.2.1, hR9, Lib.hid HC.out.2.2.2.1, hb10⟩, by simp [intOf]; omega⟩
      · have hslx := fun w' => hslS w' e1
        have hsly := fun w' => hslA w' e3
        clear hslS hslA e1 e3
        go_wp2_with fail
        refine HC.out.1.mono ?_
        rintro e w2 ⟨p3, m3, c3, rfl, hm3, hR3, hg2, hat2⟩
        have hb2 : Below w1.heap.size w1 w2 := HC.out.2.2.2.2.2.2.2.grown hg2 HC.out.2.2.2.2.2.2.2.size (fun g e => (HC.out.2.2.2.2.2.1.lt g e).1)
        have hR4 := HC.out.2.2.2.2.2.2.1.kept hg2 (rows_apart HC.out.2.2.2.2.2.2.1 HC.out.2.2.2.2.2.1 (by decide))
        have hm3b : m3 ≤ j + 1 := by have h1 := onceA_length all X; have h2 := HC.out.2.2.2.2.2.1.1; rw [List.length_map, Nat.mul_one] at h2; omega
        have H3 := Lib.hid (And.intro hm3 (And.intro hR3 (And.intro hR4 hb2)))
        clear hm3 hR3 hR4 hb2 hg2 hat2
        go_wp2_with fail
        refine (HC.out.2.1 w2).mono ?_
        rintro e w3 ⟨rfl, hb3⟩
        have hR5 := row_below H3.out.2.1 hb3
        have hR6 := row_below H3.out.2.2.1 hb3
        have hb5 : Below w1.heap.size w1 w3 := H3.out.2.2.2.trans (hb3.mono H3.out.2.2.2.size)
        have hR7 := hR5.alloc (.cells (bcells H) 36)
        have hR8 := hR6.alloc (.cells (bcells H) 36)
        have hba : Below w1.heap.size w1 (w3.alloc (.cells (bcells H) 36)) := hb5.alloc hb5.size _
        have hsrc := src_hash HC.out.2.2.2.2.1 (Blk.new w3 36 (bcells H))
        have b1 : j + 1 ≤ maxLen := by simp only [maxLen]; omega
        have b2 : (j + 1) * 32 ≤ 140737488355328 := by omega
        have HQ := Lib.hid (And.intro hR8 (And.intro hsrc (And.intro hba hR7)))
        clear hR5 hR6 hb5 hR7 hR8 hba hsrc hb3
        go_wp2_with (first
          | (refine wpList_bs (d := 38) #[(0, .agg (bcells H))] _ (by rw [List.map_toArray]; rfl) (buildS82 H HC.out.2.2.2.2.1 w3) ?_; simp only [List.setIfInBounds_toArray, List.set_cons_succ, List.set_cons_zero])
          | (at_builtin; refine wpList_app _ w1.heap.size 36 i0 (.agg z32) 32 32 under82 hi0 hz0 hz1 hz2 rfl (.slice p2 j c2) j xs rfl HQ.out.1 _ 1 _ rfl HQ.out.2.1 b1 b2 HQ.out.2.2.1.size ?_; intro v9 w9 hR9 hg9 hat9 _; obtain ⟨p9, c9, rfl⟩ := row_slice hR9; simp only [List.setIfInBounds_toArray, List.set_cons_succ, List.set_cons_zero]))
        have hR10 := HQ.out.2.2.2.kept hg9 (rows_apart HQ.out.2.2.2 HQ.out.1 (by decide))
        have hb10 := HQ.out.2.2.1.grown hg9 HQ.out.2.2.1.size (fun g e => (HQ.out.1.lt g e).1)
        exact ⟨⟨j + 1, a + 64, m3, c3, c9, p3, p9, onceA all X, _, rfl, rfl, by go_num, by omega, by omega, Lib.hid (by have := HS2.out.1; omega), hR10, Lib.hid HC.out.2.2.1, hR9, Lib.hid HC.out.2.2.2.1, hb10⟩, by simp [intOf]; omega⟩
    · have ha := HA.out
      have hLS : L.length = S := by rw [EE.out.2.2.2, hsz]
      have hjM : j = M := by have h1 := (cutL_get (k := 64) (by decide) j L).2 (by omega); have h2 := EM.out.1; omega
      have hBl : (buildB L).length = M := by rw [buildB, List.length_map, EM.out.1]
      have hHl : (buildH L).length = M := by rw [buildH, List.length_map, hBl]
      have hall := HAL.out
      have hxs := HXS.out
      rw [hjM, List.take_of_length_le (by omega)] at hall hxs
      obtain ⟨ws, ews⟩ : ∃ ws, ws = wr := ⟨_, rfl⟩
      subst ews
      have hj64 : j ≤ 64 := by omega
      have hlt : ∀ g, (Value.slice p2 j c2).ownBlock = some g → g < ws.heap.size := fun g e => (hR2.lt g e).2
      have hjH : j = (buildH L).length := by omega
      obtain ⟨HSs, eHS⟩ : ∃ H, H = buildH L := ⟨_, rfl⟩
      rw [← eHS] at hxs hjH
      have hHSl : ∀ x ∈ HSs, x.length = 32 := by rw [eHS]; exact buildH_len L
      rw [hxs] at hR2
      have hcl8 := cutL_len (k := 8) (by decide) HSs.length HSs (Nat.le_refl _)
      have H2 := Lib.hid (And.intro hall (And.intro hR2 (And.intro hlt (And.intro hjH (And.intro eHS (And.intro hHSl (And.intro hcl8 (And.intro hR1 hb))))))))
      have hn64 : n1 ≤ 64 := by omega
      have hsw : w1.heap.size ≤ ws.heap.size := hb.size
      clear hall hxs hlt hjH eHS hHSl hcl8 HA HAL HXS hR1 hR2 hb hBl hHl ha hLS hj hn1 hjM
      go_wp2
      go_loopw [5, 7, 10, 11] (fun t5 t7 t10 t11 wr => ∃ (q a n1 c1 c3 : Nat) (p1 p3 : Option Addr) (all : List ByteArray) (ys : List Value), t5 = .slice p1 n1 c1 ∧ t7 = .slice p3 q c3 ∧ t10 = .int .i64 (a : Int) ∧ q ≤ 8 ∧ n1 ≤ 64 + q ∧ Hid (a = 8 * q) ∧
        wr.ownsRow w1.heap.size 9 1 (.slice p1 n1 c1) n1 (all.map SV) ∧ Hid (all = ((buildI L).take q).foldl onceA ((buildB L).foldl onceA [])) ∧ wr.ownsRow ws.heap.size 36 32 (.slice p3 q c3) q ys ∧ Hid (ys = hcells ((buildJ L).take q)) ∧ wr.ownsRow w1.heap.size 36 32 (.slice p2 j c2) j (hcells HSs) ∧
        Below w1.heap.size w1 wr ∧ ws.heap.size ≤ wr.heap.size) (fun _ _ t10 _ _ => j - (intOf t10).toNat)
      case atStart => exact ⟨0, 0, n1, c1, 0, p1, none, all, [], rfl, rfl, rfl, by omega, by omega, Lib.hid rfl, H2.out.2.2.2.2.2.2.2.1, Lib.hid H2.out.1, World.ownsRow_nil _ _ _ _, Lib.hid rfl, H2.out.2.1, H2.out.2.2.2.2.2.2.2.2, Nat.le_refl _⟩
      case round =>
        obtain ⟨q, a, n1, c1, c3, p1, p3, all, ys, rfl, rfl, rfl, hq, hn1, HA, hR1, HAL, hR3, HYS, hR2, hb, hsz2⟩ := hrel
        by_cases h2 : a < j
        · have ha := HA.out
          obtain ⟨ch, ech⟩ : ∃ ch, ch = (HSs.drop (8 * q)).take 8 := ⟨_, rfl⟩
          have hjH := H2.out.2.2.2.1
          have hget := (cutL_get (k := 8) (by decide) q HSs).1 (by omega)
          rw [← ech] at hget
          have hqM : q < 8 := by
            have h1 := (List.getElem?_eq_some_iff.1 hget).1
            have h3 := H2.out.2.2.2.2.2.2.1.2.2
            omega
          have hIq : (buildI L)[q]? = some (nodeT 73 ch) := by rw [buildI, ← H2.out.2.2.2.2.1, List.getElem?_map, hget]; rfl
          have hJq : (buildJ L)[q]? = some (objH (nodeT 73 ch)) := by rw [buildJ, List.getElem?_map, hIq]; rfl
          obtain ⟨X, eX⟩ : ∃ X, X = nodeT 73 ch := ⟨_, rfl⟩
          rw [← eX] at hIq hJq
          obtain ⟨H, eH⟩ : ∃ H, H = objH X := ⟨_, rfl⟩
          rw [← eH] at hJq
          obtain ⟨h, eh⟩ : ∃ h, h = min j (a + 8) := ⟨_, rfl⟩
          have hchl : ∀ x ∈ ch, x.length = 32 := fun x hx => by rw [ech] at hx; exact H2.out.2.2.2.2.2.1 x (List.mem_of_mem_drop (List.mem_of_mem_take hx))
          have hchn : ch.length = h - a := by rw [ech, List.length_take, List.length_drop, ← hjH]; omega
          have hcap := row_cap hR2
          obtain ⟨D, hDf, _⟩ := hashAt_row hR2 hjH H2.out.2.2.2.2.2.1
          obtain ⟨hD1, hD2, hD3⟩ := hDf (by omega)
          subst hD2
          have hDlt : D < wr.heap.size := (hR2.lt D hD1).2
          obtain ⟨cc, ecc⟩ : ∃ cc, cc = c2 - a := ⟨_, rfl⟩
          obtain ⟨kc, ekc⟩ : ∃ kc, kc = h - a := ⟨_, rfl⟩
          have hHAt : HashAt wr (some ⟨D, a * 32, none⟩) ch := by
            refine .inr ⟨D, a * 32, rfl, hDlt, ?_⟩
            have := range_drop hD3 (a * 32)
            rw [Nat.zero_add] at this
            rw [ech, hcells_take _ (fun x hx => H2.out.2.2.2.2.2.1 x (List.mem_of_mem_drop hx)), hcells_drop _ H2.out.2.2.2.2.2.1, ← ha]
            exact range_take this _
          have hsl : ∀ (z : Int) w', z = (h : Int) → (Instr.slice 98 (.slice (some ⟨D, 0, none⟩) j c2) (some (.int .i64 (a : Int))) (some (.int .i64 z)) none).run Tryz.prog w' = .ok (.slice (some ⟨D, a * 32, none⟩) kc cc) w' := fun z w' hz => by
            rw [run_slice_lh w' 98 (some ⟨D, 0, none⟩) j c2 (by kernel_rfl) .i64 .i64 (a : Int) z (by omega) (by omega) (by omega)]
            rw [show (sizeOf (Tryz.prog.elem 98)).run Tryz.prog w' = .ok 32 w' by kernel_rfl, Result.andThen_ok, hz, sliced, if_neg (by simp only [Int.toNat_natCast]; omega), ecc, ekc]
            simp [Addr.add_mid]
          have hhh : (h = j ∧ (j : Int) < (a : Int) + 8) ∨ (h = a + 8 ∧ (a : Int) + 8 < (j : Int)) ∨ (h = j ∧ h = a + 8 ∧ (j : Int) ≤ (a : Int) + 8 ∧ (a : Int) + 8 ≤ (j : Int)) := by omega
          have hkc8 : kc ≤ 8 := by omega
          have c88 := rowr_any 73 (some ⟨D, a * 32, none⟩) ch cc wr hHAt hchl (by omega)
          rw [hchn, ← ekc, ← eX] at c88
          have hXs : X.size ≤ 140737488351232 := by rw [eX]; exact nodeT_size 73 ch (by omega) hchl
          have hal2 : onceA all X = ((buildI L).take (q + 1)).foldl onceA ((buildB L).foldl onceA []) := by rw [List.take_add_one, hIq, List.foldl_append, ← HAL.out]; rfl
          have hys2 : ys ++ (bcells H).toList = hcells ((buildJ L).take (q + 1)) := by rw [List.take_add_one, hJq, hcells, List.flatMap_append, HYS.out, hcells]; simp
          have hHl : H.length = 32 := by rw [eH]; exact objH_length X
          have c58 : ∀ w', Calls Tryz.prog 21 #[.string X] w' fun e w'' => e = .returned (.agg (bcells H)) ∧ Below w'.heap.size w' w'' := fun w' => by rw [eH]; exact obj_any X w' hXs
          have HC := Lib.hid (And.intro c88 (And.intro c58 (And.intro hal2 (And.intro hys2 (And.intro hHl (And.intro hR1 (And.intro hR3 (And.intro hb hR2))))))))
          have HS2 := Lib.hid (And.intro ha hsl)
          clear c88 c58 hal2 hys2 hHl ha hsl ech hget hIq hJq eX eH eh hchl hchn hcap hDf hD1 hD3 hDlt ecc ekc hHAt hXs hR1 hR3 hb hR2 hjH
          rcases hhh with ⟨e1, e2⟩ | ⟨e1, e2⟩ | ⟨e1, e3, e2, e4⟩
          all_goals
            have hslS : ∀ w', h = j → (Instr.slice 98 (.slice (some ⟨D, 0, none⟩) j c2) (some (.int .i64 (a : Int))) (some (.int .i64 (j : Int))) none).run Tryz.prog w' = .ok (.slice (some ⟨D, a * 32, none⟩) kc cc) w' := fun w' e => HS2.out.2 _ _ (by rw [e])
            have hslA : ∀ w', h = a + 8 → (Instr.slice 98 (.slice (some ⟨D, 0, none⟩) j c2) (some (.int .i64 (a : Int))) (some (.int .i64 ((a : Int) + 8))) none).run Tryz.prog w' = .ok (.slice (some ⟨D, a * 32, none⟩) kc cc) w' := fun w' e => HS2.out.2 _ _ (by rw [e]; rfl)
          · have hslx := fun w' => hslS w' e1
            clear hslS hslA e1
            go_wp2_with fail
            refine HC.out.1.mono ?_
            rintro e w2 ⟨rfl, hb2⟩
            have hR1b := row_below HC.out.2.2.2.2.2.1 hb2
            have hR3b := row_below HC.out.2.2.2.2.2.2.1 hb2
            have hR2b := row_below HC.out.2.2.2.2.2.2.2.2 hb2
            have hbb : Below w1.heap.size w1 w2 := HC.out.2.2.2.2.2.2.2.1.trans (hb2.mono HC.out.2.2.2.2.2.2.2.1.size)
            have hs2 : ws.heap.size ≤ w2.heap.size := Nat.le_trans hsz2 hb2.size
            have c87 := once_any hR1b (by omega) hbb.size X
            have HE := Lib.hid (And.intro c87 (And.intro hR1b (And.intro hR3b (And.intro hR2b hbb))))
            clear c87 hR1b hR3b hR2b hbb hb2
            go_wp2_with fail
            refine HE.out.1.mono ?_
            rintro e w3 ⟨p4, m4, c4, rfl, hm4, hR4, hg4, hat4⟩
            have hb3 : Below w1.heap.size w1 w3 := HE.out.2.2.2.2.grown hg4 HE.out.2.2.2.2.size (fun g e => (HE.out.2.1.lt g e).1)
            have hR5 := HE.out.2.2.1.kept hg4 (rows_apart HE.out.2.2.1 HE.out.2.1 (by decide))
            have hR6 := HE.out.2.2.2.1.kept hg4 (rows_apart HE.out.2.2.2.1 HE.out.2.1 (by decide))
            have hm4b : m4 ≤ 64 + (q + 1) := by have h1 := onceA_length all X; have h2 := HE.out.2.1.1; rw [List.length_map, Nat.mul_one] at h2; omega
            have hs3 : ws.heap.size ≤ w3.heap.size := Nat.le_trans hs2 hg4.size
            have HF := Lib.hid (And.intro hm4 (And.intro hR4 (And.intro hR5 (And.intro hR6 hb3))))
            clear hm4 hR4 hR5 hR6 hb3 hg4 hat4 hs2
            go_wp2_with fail
            refine (HC.out.2.1 w3).mono ?_
            rintro e w4 ⟨rfl, hb4⟩
            have hR7 := (row_below HF.out.2.1 hb4).alloc (.cells (bcells H) 36)
            have hR8 := (row_below HF.out.2.2.1 hb4).alloc (.cells (bcells H) 36)
            have hR9 := (row_below HF.out.2.2.2.1 hb4).alloc (.cells (bcells H) 36)
            have hb5 : Below w1.heap.size w1 w4 := HF.out.2.2.2.2.trans (hb4.mono HF.out.2.2.2.2.size)
            have hba : Below w1.heap.size w1 (w4.alloc (.cells (bcells H) 36)) := hb5.alloc hb5.size _
            have hsrc := src_hash HC.out.2.2.2.2.1 (Blk.new w4 36 (bcells H))
            have hsa : ws.heap.size ≤ (w4.alloc (.cells (bcells H) 36)).heap.size := by have := hb4.size; simp; omega
            have b1 : q + 1 ≤ maxLen := by simp only [maxLen]; omega
            have b2 : (q + 1) * 32 ≤ 140737488355328 := by omega
            have HQ := Lib.hid (And.intro hR8 (And.intro hsrc (And.intro hsa (And.intro hR7 (And.intro hR9 hba)))))
            clear hR7 hR8 hR9 hb5 hba hsrc hsa hb4
            go_wp2_with (first
              | (refine wpList_bs (d := 61) #[(0, .agg (bcells H))] _ (by rw [List.map_toArray]; rfl) (buildS82 H HC.out.2.2.2.2.1 w4) ?_; simp only [List.setIfInBounds_toArray, List.set_cons_succ, List.set_cons_zero])
              | (at_builtin; refine wpList_app _ ws.heap.size 36 i0 (.agg z32) 32 32 under82 hi0 hz0 hz1 hz2 rfl (.slice p3 q c3) q ys rfl HQ.out.1 _ 1 _ rfl HQ.out.2.1 b1 b2 HQ.out.2.2.1 ?_; intro v9 w9 hR9 hg9 hat9 _; obtain ⟨p9, c9, rfl⟩ := row_slice hR9; simp only [List.setIfInBounds_toArray, List.set_cons_succ, List.set_cons_zero]))
            have hR10 := HQ.out.2.2.2.1.kept hg9 (rows_apart HQ.out.2.2.2.1 HQ.out.1 (by decide))
            have hR11 := HQ.out.2.2.2.2.1.kept hg9 (.inr (fun e => by have h1 := H2.out.2.2.1 D rfl; have h2 := (HQ.out.1.lt D e.symm).1; omega))
            have hb10 := HQ.out.2.2.2.2.2.grown hg9 HQ.out.2.2.2.2.2.size (fun g e => by have h1 := (HQ.out.1.lt g e).1; omega)
            exact ⟨⟨q + 1, a + 8, m4, c4, c9, p4, p9, onceA all X, _, rfl, rfl, by go_num, by omega, by omega, Lib.hid (by have := HS2.out.1; omega), hR10, Lib.hid HC.out.2.2.1, hR9, Lib.hid HC.out.2.2.2.1, hR11, hb10, by have := hg9.size; have := HQ.out.2.2.1; omega⟩, by simp [intOf]; omega⟩
          · have hslx := fun w' => hslA w' e1
            clear hslS hslA e1
            go_wp2_with fail
            refine HC.out.1.mono ?_
            rintro e w2 ⟨rfl, hb2⟩
            have hR1b := row_below HC.out.2.2.2.2.2.1 hb2
            have hR3b := row_below HC.out.2.2.2.2.2.2.1 hb2
            have hR2b := row_below HC.out.2.2.2.2.2.2.2.2 hb2
            have hbb : Below w1.heap.size w1 w2 := HC.out.2.2.2.2.2.2.2.1.trans (hb2.mono HC.out.2.2.2.2.2.2.2.1.size)
            have hs2 : ws.heap.size ≤ w2.heap.size := Nat.le_trans hsz2 hb2.size
            have c87 := once_any hR1b (by omega) hbb.size X
            have HE := Lib.hid (And.intro c87 (And.intro hR1b (And.intro hR3b (And.intro hR2b hbb))))
            clear c87 hR1b hR3b hR2b hbb hb2
            go_wp2_with fail
            refine HE.out.1.mono ?_
            rintro e w3 ⟨p4, m4, c4, rfl, hm4, hR4, hg4, hat4⟩
            have hb3 : Below w1.heap.size w1 w3 := HE.out.2.2.2.2.grown hg4 HE.out.2.2.2.2.size (fun g e => (HE.out.2.1.lt g e).1)
            have hR5 := HE.out.2.2.1.kept hg4 (rows_apart HE.out.2.2.1 HE.out.2.1 (by decide))
            have hR6 := HE.out.2.2.2.1.kept hg4 (rows_apart HE.out.2.2.2.1 HE.out.2.1 (by decide))
            have hm4b : m4 ≤ 64 + (q + 1) := by have h1 := onceA_length all X; have h2 := HE.out.2.1.1; rw [List.length_map, Nat.mul_one] at h2; omega
            have hs3 : ws.heap.size ≤ w3.heap.size := Nat.le_trans hs2 hg4.size
            have HF := Lib.hid (And.intro hm4 (And.intro hR4 (And.intro hR5 (And.intro hR6 hb3))))
            clear hm4 hR4 hR5 hR6 hb3 hg4 hat4 hs2
            go_wp2_with fail
            refine (HC.out.2.1 w3).mono ?_
            rintro e w4 ⟨rfl, hb4⟩
            have hR7 := (row_below HF.out.2.1 hb4).alloc (.cells (bcells H) 36)
            have hR8 := (row_below HF.out.2.2.1 hb4).alloc (.cells (bcells H) 36)
            have hR9 := (row_below HF.out.2.2.2.1 hb4).alloc (.cells (bcells H) 36)
            have hb5 : Below w1.heap.size w1 w4 := HF.out.2.2.2.2.trans (hb4.mono HF.out.2.2.2.2.size)
            have hba : Below w1.heap.size w1 (w4.alloc (.cells (bcells H) 36)) := hb5.alloc hb5.size _
            have hsrc := src_hash HC.out.2.2.2.2.1 (Blk.new w4 36 (bcells H))
            have hsa : ws.heap.size ≤ (w4.alloc (.cells (bcells H) 36)).heap.size := by have := hb4.size; simp; omega
            have b1 : q + 1 ≤ maxLen := by simp only [maxLen]; omega
            have b2 : (q + 1) * 32 ≤ 140737488355328 := by omega
            have HQ := Lib.hid (And.intro hR8 (And.intro hsrc (And.intro hsa (And.intro hR7 (And.intro hR9 hba)))))
            clear hR7 hR8 hR9 hb5 hba hsrc hsa hb4
            go_wp2_with (first
              | (refine wpList_bs (d := 61) #[(0, .agg (bcells H))] _ (by rw [List.map_toArray]; rfl) (buildS82 H HC.out.2.2.2.2.1 w4) ?_; simp only [List.setIfInBounds_toArray, List.set_cons_succ, List.set_cons_zero])
              | (at_builtin; refine wpList_app _ ws.heap.size 36 i0 (.agg z32) 32 32 under82 hi0 hz0 hz1 hz2 rfl (.slice p3 q c3) q ys rfl HQ.out.1 _ 1 _ rfl HQ.out.2.1 b1 b2 HQ.out.2.2.1 ?_; intro v9 w9 hR9 hg9 hat9 _; obtain ⟨p9, c9, rfl⟩ := row_slice hR9; simp only [List.setIfInBounds_toArray, List.set_cons_succ, List.set_cons_zero]))
            have hR10 := HQ.out.2.2.2.1.kept hg9 (rows_apart HQ.out.2.2.2.1 HQ.out.1 (by decide))
            have hR11 := HQ.out.2.2.2.2.1.kept hg9 (.inr (fun e => by have h1 := H2.out.2.2.1 D rfl; have h2 := (HQ.out.1.lt D e.symm).1; omega))
            have hb10 := HQ.out.2.2.2.2.2.grown hg9 HQ.out.2.2.2.2.2.size (fun g e => by have h1 := (HQ.out.1.lt g e).1; omega)
            exact ⟨⟨q + 1, a + 8, m4, c4, c9, p4, p9, onceA all X, _, rfl, rfl, by go_num, by omega, by omega, Lib.hid (by have := HS2.out.1; omega), hR10, Lib.hid HC.out.2.2.1, hR9, Lib.hid HC.out.2.2.2.1, hR11, hb10, by have := hg9.size; have := HQ.out.2.2.1; omega⟩, by simp [intOf]; omega⟩
          · have hslx := fun w' => hslS w' e1
            have hsly := fun w' => hslA w' e3
            clear hslS hslA e1 e3
            go_wp2_with fail
            refine HC.out.1.mono ?_
            rintro e w2 ⟨rfl, hb2⟩
            have hR1b := row_below HC.out.2.2.2.2.2.1 hb2
            have hR3b := row_below HC.out.2.2.2.2.2.2.1 hb2
            have hR2b := row_below HC.out.2.2.2.2.2.2.2.2 hb2
            have hbb : Below w1.heap.size w1 w2 := HC.out.2.2.2.2.2.2.2.1.trans (hb2.mono HC.out.2.2.2.2.2.2.2.1.size)
            have hs2 : ws.heap.size ≤ w2.heap.size := Nat.le_trans hsz2 hb2.size
            have c87 := once_any hR1b (by omega) hbb.size X
            have HE := Lib.hid (And.intro c87 (And.intro hR1b (And.intro hR3b (And.intro hR2b hbb))))
            clear c87 hR1b hR3b hR2b hbb hb2
            go_wp2_with fail
            refine HE.out.1.mono ?_
            rintro e w3 ⟨p4, m4, c4, rfl, hm4, hR4, hg4, hat4⟩
            have hb3 : Below w1.heap.size w1 w3 := HE.out.2.2.2.2.grown hg4 HE.out.2.2.2.2.size (fun g e => (HE.out.2.1.lt g e).1)
            have hR5 := HE.out.2.2.1.kept hg4 (rows_apart HE.out.2.2.1 HE.out.2.1 (by decide))
            have hR6 := HE.out.2.2.2.1.kept hg4 (rows_apart HE.out.2.2.2.1 HE.out.2.1 (by decide))
            have hm4b : m4 ≤ 64 + (q + 1) := by have h1 := onceA_length all X; have h2 := HE.out.2.1.1; rw [List.length_map, Nat.mul_one] at h2; omega
            have hs3 : ws.heap.size ≤ w3.heap.size := Nat.le_trans hs2 hg4.size
            have HF := Lib.hid (And.intro hm4 (And.intro hR4 (And.intro hR5 (And.intro hR6 hb3))))
            clear hm4 hR4 hR5 hR6 hb3 hg4 hat4 hs2
            go_wp2_with fail
            refine (HC.out.2.1 w3).mono ?_
            rintro e w4 ⟨rfl, hb4⟩
            have hR7 := (row_below HF.out.2.1 hb4).alloc (.cells (bcells H) 36)
            have hR8 := (row_below HF.out.2.2.1 hb4).alloc (.cells (bcells H) 36)
            have hR9 := (row_below HF.out.2.2.2.1 hb4).alloc (.cells (bcells H) 36)
            have hb5 : Below w1.heap.size w1 w4 := HF.out.2.2.2.2.trans (hb4.mono HF.out.2.2.2.2.size)
            have hba : Below w1.heap.size w1 (w4.alloc (.cells (bcells H) 36)) := hb5.alloc hb5.size _
            have hsrc := src_hash HC.out.2.2.2.2.1 (Blk.new w4 36 (bcells H))
            have hsa : ws.heap.size ≤ (w4.alloc (.cells (bcells H) 36)).heap.size := by have := hb4.size; simp; omega
            have b1 : q + 1 ≤ maxLen := by simp only [maxLen]; omega
            have b2 : (q + 1) * 32 ≤ 140737488355328 := by omega
            have HQ := Lib.hid (And.intro hR8 (And.intro hsrc (And.intro hsa (And.intro hR7 (And.intro hR9 hba)))))
            clear hR7 hR8 hR9 hb5 hba hsrc hsa hb4
            go_wp2_with (first
              | (refine wpList_bs (d := 61) #[(0, .agg (bcells H))] _ (by rw [List.map_toArray]; rfl) (buildS82 H HC.out.2.2.2.2.1 w4) ?_; simp only [List.setIfInBounds_toArray, List.set_cons_succ, List.set_cons_zero])
              | (at_builtin; refine wpList_app _ ws.heap.size 36 i0 (.agg z32) 32 32 under82 hi0 hz0 hz1 hz2 rfl (.slice p3 q c3) q ys rfl HQ.out.1 _ 1 _ rfl HQ.out.2.1 b1 b2 HQ.out.2.2.1 ?_; intro v9 w9 hR9 hg9 hat9 _; obtain ⟨p9, c9, rfl⟩ := row_slice hR9; simp only [List.setIfInBounds_toArray, List.set_cons_succ, List.set_cons_zero]))
            have hR10 := HQ.out.2.2.2.1.kept hg9 (rows_apart HQ.out.2.2.2.1 HQ.out.1 (by decide))
            have hR11 := HQ.out.2.2.2.2.1.kept hg9 (.inr (fun e => by have h1 := H2.out.2.2.1 D rfl; have h2 := (HQ.out.1.lt D e.symm).1; omega))
            have hb10 := HQ.out.2.2.2.2.2.grown hg9 HQ.out.2.2.2.2.2.size (fun g e => by have h1 := (HQ.out.1.lt g e).1; omega)
            exact ⟨⟨q + 1, a + 8, m4, c4, c9, p4, p9, onceA all X, _, rfl, rfl, by go_num, by omega, by omega, Lib.hid (by have := HS2.out.1; omega), hR10, Lib.hid HC.out.2.2.1, hR9, Lib.hid HC.out.2.2.2.1, hR11, hb10, by have := hg9.size; have := HQ.out.2.2.1; omega⟩, by simp [intOf]; omega⟩
        · have ha := HA.out
          have hjH := H2.out.2.2.2.1
          have h3 := (cutL_get (k := 8) (by decide) q HSs).2 (by omega)
          have hIl : (buildI L).length ≤ q := by rw [buildI, List.length_map, ← H2.out.2.2.2.2.1]; exact h3
          have hall := HAL.out
          have hys := HYS.out
          rw [List.take_of_length_le hIl] at hall
          rw [List.take_of_length_le (by rw [buildJ, List.length_map]; exact hIl)] at hys
          have hqJ : q = (buildJ L).length := by
            have h1 := hR3.1
            rw [hys, hcells_length _ (buildJ_len L)] at h1
            omega
          rw [hys] at hR3
          obtain ⟨D3, _, hHAt⟩ := hashAt_row hR3 hqJ (buildJ_len L)
          have c88 := rowr_any 82 p3 (buildJ L) c3 wr hHAt (buildJ_len L) (by omega)
          rw [← hqJ] at c88
          obtain ⟨X, eX⟩ : ∃ X, X = nodeT 82 (buildJ L) := ⟨_, rfl⟩
          rw [← eX] at c88
          have hXs : X.size ≤ 140737488351232 := by rw [eX]; exact nodeT_size 82 _ (by omega) (buildJ_len L)
          have hRH : RH = objH X := by rw [EE.out.2.1, eX]; rfl
          have hOB : onceA all X = OB := by rw [EE.out.2.2.1, eX, hall]; rfl
          have hRHl : RH.length = 32 := by rw [hRH]; exact objH_length X
          have c58 : ∀ w', Calls Tryz.prog 21 #[.string X] w' fun e w'' => e = .returned (.agg (bcells RH)) ∧ Below w'.heap.size w' w'' := fun w' => by rw [hRH]; exact obj_any X w' hXs
          have HC := Lib.hid (And.intro c88 (And.intro c58 (And.intro hOB (And.intro hRHl (And.intro hR1 hb)))))
          clear c88 c58 hOB hRHl hR1 hb hRH hXs eX hHAt hR3 hqJ hys hall hIl h3 hjH ha HA HAL HYS hR2
          go_wp2_with fail
          refine HC.out.1.mono ?_
          rintro e w2 ⟨rfl, hb2⟩
          have hR1b := row_below HC.out.2.2.2.2.1 hb2
          have hbb : Below w1.heap.size w1 w2 := HC.out.2.2.2.2.2.trans (hb2.mono HC.out.2.2.2.2.2.size)
          have c87 := once_any hR1b (by omega) hbb.size X
          rw [HC.out.2.2.1] at c87
          have HE := Lib.hid (And.intro c87 (And.intro hR1b hbb))
          clear c87 hR1b hbb hb2
          go_wp2_with fail
          refine HE.out.1.mono ?_
          rintro e w3 ⟨p4, m4, c4, rfl, hm4, hR4, hg4, hat4⟩
          have hb3 : Below w1.heap.size w1 w3 := HE.out.2.2.grown hg4 HE.out.2.2.size (fun g e => (HE.out.2.1.lt g e).1)
          have HF := Lib.hid (And.intro hm4 (And.intro hR4 hb3))
          clear hm4 hR4 hg4 hat4 hb3
          go_wp2_with fail
          refine (HC.out.2.1 w3).mono ?_
          rintro e w4 ⟨rfl, hb4⟩
          have hb5 : Below w1.heap.size w1 w4 := HF.out.2.2.trans (hb4.mono HF.out.2.2.size)
          have hZ : Blk w4 w.heap.size 36 z32 := H1.out.1.below hb5 H1.out.1.lt
          have hR5 := row_below HF.out.2.1 hb4
          have hbw : Below w.heap.size w w4 := H1.out.2.1.trans (hb5.mono H1.out.2.1.size)
          have HG := Lib.hid (And.intro hZ (And.intro hR5 hbw))
          clear hZ hR5 hbw hb5 hb4
          go_wp2_with (refine wpList_st_row w.heap.size (bcells RH) rfl rfl 36 z32 HG.out.1 (by rw [size29, bcells_size, HC.out.2.2.2.1]) (by rw [bcells_size, HC.out.2.2.2.1]; rfl) (bcells_one _) ?_)
          refine bodyPost_ret (results_row_slots rfl _ _ w.heap.size 36 (bcells RH) (0, 0) _ rfl (HG.out.1.row _) Tryz.underlying36 rfl (by rw [size29, bcells_size, HC.out.2.2.2.1])) rfl ⟨p4, m4, c4, rfl, HF.out.1, ?_, below_setRow HG.out.2.2 (Nat.le_refl _) _⟩
          exact row_mono (HG.out.2.1.kept (grown_row1' _ w.heap.size (bcells RH)) (.inr (fun e => by have h1 := (HG.out.2.1.lt _ e).1; have h2 := H1.out.2.2; omega))) H1.out.2.1.size
end Go.Proofs.YtmhbkilpllgchaaGreatDoor
