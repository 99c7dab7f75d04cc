/- The walk of FileBack. -/
import Derived.Test.YtmhbkilpllgchaaFtX
namespace Go.Proofs.Ytmhbkilpllgchaa
open Go.RowKit BigFrame
set_option linter.unusedVariables false
set_option linter.unusedSimpArgs false

/-- What is appended of the objects before number j. -/
def fbP (L : List UInt8) (i : Nat) (o : ByteArray) : Bool := decide (objH o ∈ (loadR (readK (fb L i)) (rootH L) L.length).ws)
def fbJ (L : List UInt8) (i j : Nat) : List ByteArray := fb L i ++ ((buildO L).take j).filter (fbP L i)
/-- .. and of object number j itself, the wanted ones before number q looked at. -/
def fbQ (L : List UInt8) (i j q : Nat) (ws : List (List UInt8)) (o : ByteArray) : List ByteArray := fbJ L i j ++ (if objH o ∈ ws.take q then [o] else [])
theorem fbJ_zero (L : List UInt8) (i : Nat) : fbJ L i 0 = fb L i := by simp [fbJ]
theorem fbJ_end (L : List UInt8) (i j : Nat) (h : (buildO L).length ≤ j) : fbJ L i j = fb L (i + 1) := by
  rw [fbJ, List.take_of_length_le h, fb]
  rfl
theorem fbQ_zero (L : List UInt8) (i j : Nat) (ws : List (List UInt8)) (o : ByteArray) : fbQ L i j 0 ws o = fbJ L i j := by simp [fbQ]
theorem fbQ_end (L : List UInt8) (i j q : Nat) (ws : List (List UInt8)) (hj : j < (buildO L).length) (hws : ws = (loadR (readK (fb L i)) (rootH L) L.length).ws) (h : ws.length ≤ q) : fbQ L i j q ws (buildO L)[j] = fbJ L i (j + 1) := by
  rw [fbQ, List.take_of_length_le h, fbJ, fbJ, List.take_succ_eq_append_getElem hj, List.filter_append, List.append_assoc]
  congr 2
  rw [hws]
  by_cases g : objH (buildO L)[j] ∈ (loadR (readK (fb L i)) (rootH L) L.length).ws
  · rw [if_pos g, List.filter_cons_of_pos (by rw [fbP]; exact decide_eq_true g)]; rfl
  · rw [if_neg g, List.filter_cons_of_neg (by rw [fbP]; simpa using g)]; rfl
theorem fbQ_hit (L : List UInt8) (i j q : Nat) (ws : List (List UInt8)) (o : ByteArray) (hq : q < ws.length) (hn : ws.Nodup) (h : objH o = ws[q]) : fbQ L i j (q + 1) ws o = fbQ L i j q ws o ++ [o] := by
  have h1 : objH o ∉ ws.take q := fun hm => by
    rw [h] at hm
    obtain ⟨r, hr, e⟩ := List.getElem_of_mem hm
    rw [List.length_take] at hr
    rw [List.getElem_take] at e
    have := (List.pairwise_iff_getElem.1 hn) r q (by omega) hq (by omega)
    exact this e
  have h2 : objH o ∈ ws.take (q + 1) := by rw [h, List.take_succ_eq_append_getElem hq]; exact List.mem_append_right _ (List.mem_singleton.2 rfl)
  rw [fbQ, fbQ, if_neg h1, if_pos h2, List.append_nil]
theorem fbQ_miss (L : List UInt8) (i j q : Nat) (ws : List (List UInt8)) (o : ByteArray) (hq : q < ws.length) (h : objH o ≠ ws[q]) : fbQ L i j (q + 1) ws o = fbQ L i j q ws o := by
  have : objH o ∈ ws.take (q + 1) ↔ objH o ∈ ws.take q := by
    rw [List.take_succ_eq_append_getElem hq, List.mem_append, List.mem_singleton]
    exact ⟨fun h2 => h2.elim id fun h3 => absurd h3 h, .inl⟩
  rw [fbQ, fbQ]
  by_cases g : objH o ∈ ws.take q
  · rw [if_pos g, if_pos (this.2 g)]
  · rw [if_neg g, if_neg (fun h2 => g (this.1 h2))]
theorem fbQ_few (L : List UInt8) (hL : L.length ≤ 4096) (i j q : Nat) (hi : i ≤ 3) (ws : List (List UInt8)) (o : ByteArray) : (fbQ L i j q ws o).length ≤ 400 := by
  have h1 := fb_len L i
  have h2 := buildO_few L hL
  have h3 := List.length_filter_le (fbP L i) ((buildO L).take j)
  rw [List.length_take] at h3
  have h4 : i * (buildO L).length ≤ 3 * 73 := Nat.mul_le_mul hi h2
  rw [fbQ, fbJ, List.length_append, List.length_append]
  split
  · simp only [List.length_singleton]; omega
  · simp only [List.length_nil]; omega
/-- A part of a row of texts as the source of an append. -/
theorem src_part {w : World} {g k n q : Nat} {xs : List Value} (hc : ∀ i v, xs[i]? = some v → w.cell? ⟨g, k + i, none⟩ = some v) (hn : n = xs.length) (h1 : ∀ u ∈ xs, u.oneCell' = true) : Src Try.prog 1 23 (.slice (some ⟨g, k, none⟩) n q) n xs w := by
  refine Src.ofSlice w Try.underlying23 _ n q xs (by rw [hn, Nat.mul_one]) (fun j u hu => ?_) h1
  rw [Addr.add_mid]
  exact hc j u hu

set_option maxRecDepth 100000 in
set_option maxHeartbeats 8000000 in
theorem fileback_any (s0 : ByteArray) (turn : Int) (oth : ByteArray) (w : World) (hs : s0.size ≤ 140737488351232) (ht1 : -9223372036854775808 ≤ turn) (ht2 : turn ≤ 9223372036854775807) (ho : oth.size ≤ 140737488351232) :
    Calls Try.prog 18 #[.string s0, .int .i64 turn, .string oth] w fun e w' => e = .returned (.bool true) ∧ Below w.heap.size w w' := by
  obtain ⟨i9, hi9, hz9, hz91, hz92⟩ := info_parts info9
  obtain ⟨S, hS, hSb⟩ : ∃ S : ByteArray, ((s0.size ≤ 2000 ∧ S = s0) ∨ (2000 < s0.size ∧ S = s0.extract 0 2000)) ∧ S.size ≤ 2000 := by
    by_cases h : s0.size ≤ 2000
    · exact ⟨s0, .inl ⟨h, rfl⟩, h⟩
    · exact ⟨s0.extract 0 2000, .inr ⟨by omega, rfl⟩, by rw [ByteArray.size_extract]; omega⟩
  obtain ⟨L, eL⟩ : ∃ L, L = S.data.toList := ⟨_, rfl⟩
  have hLl : S.size = L.length := by rw [eL]; rfl
  obtain ⟨A, eA⟩ : ∃ A, A = rootH L := ⟨_, rfl⟩
  have hAl : A.length = 32 := by rw [eA]; exact objH_length _
  obtain ⟨n1, en1⟩ : ∃ n1, n1 = (buildO L).length := ⟨_, rfl⟩
  have hn1b : n1 ≤ 73 := by rw [en1]; exact buildO_few L (by omega)
  have hn10 : 0 < n1 := by rw [en1]; exact List.length_pos_of_mem ((mem_buildO L _).2 (.inr (.inr rfl)))
  have c1 : ∀ w', Calls Try.prog 66 #[.string S] w' fun e w'' => ∃ p c, e = .returned (.tuple #[.agg (bcells A), .slice p n1 c, .int .i64 0]) ∧ w''.ownsRow w'.heap.size 9 1 (.slice p n1 c) n1 ((buildO L).map SV) ∧ Below w'.heap.size w' w'' := fun w' => by
    refine (build_any S w' (by omega)).mono ?_
    rintro e w'' ⟨p, m, c, rfl, hm, hR, hb⟩
    rw [← eL] at hm hR ⊢
    rw [← en1] at hm
    subst hm
    exact ⟨p, c, by rw [eA], hR, hb⟩
  have hne1 : ¬ ((n1 : Int) = 0) := by omega
  obtain ⟨k, hk, hkn⟩ : ∃ k : Nat, wrap64 ((IntKind.u64.wrap turn).tmod (n1 : Int)) = (k : Int) ∧ k < n1 := by
    rw [IntKind.wrap_u64, Int.tmod_eq_emod_of_nonneg (Int.emod_nonneg _ (by omega))]
    have h1 := Int.emod_nonneg (turn % 18446744073709551616) (b := (n1 : Int)) (by omega)
    have h2 := Int.emod_lt_of_pos (turn % 18446744073709551616) (b := (n1 : Int)) (by omega)
    obtain ⟨z, ez⟩ : ∃ z, z = turn % 18446744073709551616 % (n1 : Int) := ⟨_, rfl⟩
    rw [← ez] at h1 h2 ⊢
    refine ⟨z.toNat, ?_, by omega⟩
    rw [wrap64]
    omega
  have C := Lib.hid c1
  have E := Lib.hid (And.intro hAl (And.intro hLl (And.intro eL (And.intro eA (And.intro en1 ho)))))
  have HS := Lib.hid hS
  clear c1 eA hAl hLl eL en1 hS ho
  go_enter Try.func18, Try.ntmps18
  go_wp2_with fail
  refine (awake12_any w).mono ?_
  rintro e w0 ⟨rfl, hb0⟩
  rcases HS.out with ⟨hq, rfl⟩ | ⟨hq, eS⟩
  case' inl => have hq2 : (S.size : Int) ≤ 2000 := by omega
  case' inr =>
    have hq2 : (2000 : Int) < (s0.size : Int) := by omega
  all_goals
    go_wp2_with fail
    try rw [← eS]
    try clear eS
    refine (C.out w0).mono ?_
    rintro e w2 ⟨p, c, rfl, hR2, hb2⟩
    have hA0 : Blk (w2.alloc (.cells z32 29)) w2.heap.size 29 z32 := Blk.new _ _ _
    have hA1 : Blk ((w2.alloc (.cells z32 29)).setRow w2.heap.size (bcells A)) w2.heap.size 29 (bcells A) := hA0.row _
    have hbx : Below w2.heap.size w2 ((w2.alloc (.cells z32 29)).setRow w2.heap.size (bcells A)) := below_setRow ((Below.refl _ _).alloc (Nat.le_refl _) _) (Nat.le_refl _) _
    have hbw2 : Below w.heap.size w w2 := hb0.trans (hb2.mono hb0.size)
    have H2 := Lib.hid (And.intro (row_below hR2 hbx) (hbw2.trans (hbx.mono hbw2.size)))
    clear hb0 hb2 hbx hbw2 hR2
    go_upto_region 7 with (refine wpList_alN (d := 8) z32 zero29 w2.heap.size rfl (wpList_st_row w2.heap.size (bcells A) rfl rfl 29 z32 hA0 (by rw [size29, bcells_size, E.out.1]) (by rw [bcells_size, E.out.1]; rfl) (bcells_one _) ?_); simp only [List.setIfInBounds_toArray, List.set_cons_succ, List.set_cons_zero])
    obtain ⟨w3, e3⟩ : ∃ w3, w3 = (w2.alloc (.cells z32 29)).setRow w2.heap.size (bcells A) := ⟨_, rfl⟩
    obtain ⟨G, eG⟩ : ∃ G, G = w2.heap.size := ⟨_, rfl⟩
    rw [← e3] at hA1 H2 ⊢
    rw [← eG] at hA1 ⊢
    clear e3 eG hA0
    go_upto_region 10 with (go_at_call 39; refine (num_any2 _ _).mono ?_; rintro e w' ⟨rfl, rfl⟩)
    rw [hk]
    have hrow := H2.out.1
    obtain ⟨g, c', e1, _, hgl, hnc, _⟩ := row_form hrow (by intro e; injection e with _ e _; omega)
    injection e1 with e1 _ e2
    subst e1; subst e2
    have hcO : ∀ w', Below w3.heap.size w3 w' → ∀ i s, (buildO L)[i]? = some s → w'.cell? ⟨g, i, none⟩ = some (.string s) := fun w' h i s hs => by
      have := hrow.cells (g := g) rfl i (.string s) (by rw [List.getElem?_map, hs]; rfl)
      rw [Addr.add_mid, Nat.zero_add] at this
      exact (h.cell (p := ⟨g, i, none⟩) hgl).trans this
    have hown := own_new (Blk.new w3 9 #[.string oth]) (Nat.le_refl _) 1 rfl (by decide)
    have hba : Below w3.heap.size w3 (w3.alloc (.cells #[.string oth] 9)) := (Below.refl _ _).alloc (Nat.le_refl _) _
    have hD1 : ((buildO L).drop k).length = n1 - k := by rw [List.length_drop, E.out.2.2.2.2.1]
    have hD2 : ((buildO L).take k).length = k := by rw [List.length_take, ← E.out.2.2.2.2.1]; omega
    have hsrc1 : Src Try.prog 1 23 (.slice (some ⟨g, k, none⟩) (n1 - k) (c - k)) (n1 - k) (((buildO L).drop k).map SV) (w3.alloc (.cells #[.string oth] 9)) :=
      src_part (fun i v hv => by
        rw [List.getElem?_map, List.getElem?_drop] at hv
        obtain ⟨s, hs, rfl⟩ := Option.map_eq_some_iff.1 hv
        exact hcO _ hba (k + i) s hs) (by rw [List.length_map, hD1]) (SV_one _)
    have hsrc2 : ∀ w', Below w3.heap.size w3 w' → Src Try.prog 1 23 (.slice (some ⟨g, 0, none⟩) k c) k (((buildO L).take k).map SV) w' := fun w' h =>
      src_part (fun i v hv => by
        rw [List.getElem?_map] at hv
        obtain ⟨s, hs, rfl⟩ := Option.map_eq_some_iff.1 hv
        rw [Nat.zero_add]
        refine hcO _ h i s ?_
        rw [List.getElem?_take] at hs
        split at hs
        · exact hs
        · cases hs) (by rw [List.length_map, hD2]) (SV_one _)
    obtain ⟨AL, eAL⟩ : ∃ AL, AL = oth :: ((buildO L).drop k ++ (buildO L).take k) := ⟨_, rfl⟩
    have HO := Lib.hid (And.intro hcO (And.intro hown (And.intro hba (And.intro hsrc1 hsrc2))))
    have HAL := Lib.hid (And.intro eAL (And.intro hD1 hD2))
    clear hcO hown hba hsrc1 hsrc2 eAL hD1 hD2 hrow
    have b1 : 1 + (n1 - k) ≤ maxLen := by simp only [maxLen]; omega
    have b2 : (1 + (n1 - k)) * 16 ≤ 140737488355328 := by omega
    have b3 : 1 + (n1 - k) + k ≤ maxLen := by simp only [maxLen]; omega
    have b4 : (1 + (n1 - k) + k) * 16 ≤ 140737488355328 := by omega
    go_upto_region 11 with (at_builtin; refine wpList_app (d := 57) _ w3.heap.size 9 i9 (.string ⟨#[]⟩) 1 16 Try.underlying23 hi9 hz9 hz91 hz92 rfl (.slice (some ⟨w3.heap.size, 0, none⟩) 1 1) 1 _ rfl HO.out.2.1 _ (n1 - k) _ rfl HO.out.2.2.2.1 b1 b2 HO.out.2.2.1.size ?_; intro v4 w4 hR4 hg4 _ _; obtain ⟨p4, c4, rfl⟩ := row_slice hR4; simp only [List.setIfInBounds_toArray, List.set_cons_succ, List.set_cons_zero])
    have hb4 : Below w3.heap.size w3 w4 := HO.out.2.2.1.grown hg4 HO.out.2.2.1.size (fun g e => (HO.out.2.1.lt g e).1)
    have H4 := Lib.hid (And.intro hR4 (And.intro hb4 (HO.out.2.2.2.2 w4 hb4)))
    clear hR4 hg4 hb4
    obtain ⟨m4, em4⟩ : ∃ m4, m4 = 1 + (n1 - k) := ⟨_, rfl⟩
    rw [← em4] at H4 b3 b4 ⊢
    go_upto_region 12 with (at_builtin; refine wpList_app (d := 62) _ w3.heap.size 9 i9 (.string ⟨#[]⟩) 1 16 Try.underlying23 hi9 hz9 hz91 hz92 rfl (.slice p4 m4 c4) m4 _ rfl H4.out.1 _ k _ rfl H4.out.2.2 b3 b4 H4.out.2.1.size ?_; intro v5 w5 hR5 hg5 _ _; obtain ⟨p5, c5, rfl⟩ := row_slice hR5; simp only [List.setIfInBounds_toArray, List.set_cons_succ, List.set_cons_zero])
    obtain ⟨m5, em5⟩ : ∃ m5, m5 = m4 + k := ⟨_, rfl⟩
    have hALl : AL.length = m5 := by rw [HAL.out.1, List.length_cons, List.length_append, HAL.out.2.1, HAL.out.2.2]; omega
    have hb5 : Below w3.heap.size w3 w5 := H4.out.2.1.grown hg5 H4.out.2.1.size (fun g e => (H4.out.1.lt g e).1)
    have hR5' : w5.ownsRow w3.heap.size 9 1 (.slice p5 m5 c5) m5 (AL.map SV) := by
      rw [em5, HAL.out.1, List.map_cons, List.map_append]
      rw [List.append_assoc] at hR5
      exact hR5
    rw [← em5]
    have hALz : ∀ s ∈ AL, s.size ≤ 140737488351232 := fun s hs => by
      rw [HAL.out.1] at hs
      rcases List.mem_cons.1 hs with h | h
      · rw [h]; exact E.out.2.2.2.2.2
      · have : s ∈ buildO L := (List.mem_append.1 h).elim List.mem_of_mem_drop List.mem_of_mem_take
        have := buildO_ok (by rw [← E.out.2.1]; omega) this
        omega
    have c65 := clash_any p5 AL c5 w5 (by omega) (strs_own hR5') (fun j hj => by
      rw [List.getD, List.getElem?_eq_getElem hj, Option.getD_some]
      exact hALz _ (List.getElem_mem hj))
    rw [hALl] at c65
    have hA5 := hA1.below hb5 hA1.lt
    have H5 := Lib.hid (And.intro c65 (And.intro hR5' (And.intro hb5 (And.intro (H2.out.2.trans (hb5.mono H2.out.2.size)) (And.intro hALz hALl)))))
    have hm5 : m5 ≤ 74 := by omega
    clear c65 hR5' hb5 hALz hALl hR5 hg5 em5 em4 b1 b2 b3 b4 hA1 H4
    go_wp2_with fail
    refine H5.out.1.mono ?_
    rintro e w6 ⟨⟨bq, rfl, hap⟩, hb56⟩
    have hbw6 : Below w.heap.size w w6 := H5.out.2.2.2.1.trans (hb56.mono H5.out.2.2.2.1.size)
    have hb36 : Below w3.heap.size w3 w6 := H5.out.2.2.1.trans (hb56.mono H5.out.2.2.1.size)
    have hR6 := row_below H5.out.2.1 hb56
    have hA6 := hA5.below hb56 hA5.lt
    clear hb56 hA5
    cases bq with
    | true =>
      clear hap hb36 hR6 hA6
      go_wp2
      go_ret
      exact ⟨rfl, hbw6⟩
    | false =>
      have hA : ApartL AL := apartL_of (by rw [H5.out.2.2.2.2.2]; exact hap rfl)
      have hmem : ∀ x ∈ buildO L, x ∈ AL := fun x hx => by
        rw [HAL.out.1]
        refine List.mem_cons_of_mem _ ?_
        rw [← List.take_append_drop k (buildO L)] at hx
        exact (List.mem_append.1 hx).elim (List.mem_append_right _) (List.mem_append_left _)
      have hAO : ApartL (buildO L) := fun x hx y hy e => hA x (hmem x hx) y (hmem y hy) e
      have hL4 : L.length ≤ 4096 := by rw [← E.out.2.1]; omega
      have hSL : (⟨L.toArray⟩ : ByteArray) = S := by rw [E.out.2.2.1]
      have hget : ∀ s ∈ buildO L, findL (readK AL) (objH s) = some s := fun s hs => readK_get hA (hmem s hs) (ok258 (buildO_ok hL4 hs))
      have hload : loadZ (readK AL) A (S.size : Int) = ⟨S, [], 0⟩ := by
        have h := load_whole (kv := readK AL) (L := L) (fun s hs => hget s ((mem_buildO L s).2 (.inl hs))) (fun s hs => hget s ((mem_buildO L s).2 (.inr (.inl hs)))) (hget _ ((mem_buildO L _).2 (.inr (.inr rfl))))
        rw [loadZ, if_neg (by omega), E.out.2.2.2.1, Int.toNat_natCast, E.out.2.1, h, hSL]
      have c69 : Calls Try.prog 69 #[.agg (bcells A), .int .i64 (S.size : Int), .slice p5 m5 c5] w6 fun e w'' => ∃ p c, e = .returned (.tuple #[.string S, .slice p 0 c, .int .i64 0]) ∧ Below w6.heap.size w6 w'' := by
        refine (load_strs c5 H5.out.2.2.2.2.2.symm (by have := H5.out.2.2.2.2.2; omega) (strs_own hR6) H5.out.2.2.2.2.1 A E.out.1 _ hload).mono ?_
        rintro e w'' ⟨p, n, c, rfl, hn, _, hb⟩
        obtain rfl : n = 0 := hn
        exact ⟨p, c, rfl, hb⟩
      have H6 := Lib.hid (And.intro c69 (And.intro hbw6 (And.intro hb36 (And.intro hAO (And.intro hL4 hSL)))))
      clear c69 hbw6 hb36 hAO hL4 hSL hload hget hmem hA hap hR6
      go_wp2_with (refine wpList_ld_row (d := 66) G (bcells A) rfl 29 hA6 Try.underlying29 rfl (by rw [size29, bcells_size, E.out.1]) ?_; simp only [List.setIfInBounds_toArray, List.set_cons_succ, List.set_cons_zero])
      refine H6.out.1.mono ?_
      rintro e w7 ⟨p7, c7, rfl, hb67⟩
      have hA7 := hA6.below hb67 hA6.lt
      have H7 := Lib.hid (And.intro (H6.out.2.1.trans (hb67.mono H6.out.2.1.size)) (H6.out.2.2.1.trans (hb67.mono H6.out.2.2.1.size)))
      clear hb67 hA6
      go_wp2_with (go_at_call 39; refine (num_any2 _ _).mono ?_; rintro e w' ⟨rfl, rfl⟩)
      go_loopw [16, 17, 18, 19, 20, 21, 22] (fun t16 t17 _ _ _ _ _ wr => ∃ (i n c : Nat) (p : Option Addr), t16 = .slice p n c ∧ t17 = .int .i64 (i : Int) ∧ i ≤ 3 ∧ Hid (L = [] → i ≤ 1) ∧ wr.ownsRow w7.heap.size 9 1 (.slice p n c) n ((fb L i).map SV) ∧ Below w7.heap.size w7 wr) (fun _ t17 _ _ _ _ _ _ => 4 - (intOf t17).toNat)
      case atStart => exact ⟨0, 0, 0, none, rfl, rfl, by omega, Lib.hid (fun _ => by omega), World.ownsRow_nil _ _ _ _, Below.refl _ _⟩
      case round =>
        obtain ⟨i, n, c8, p8, rfl, rfl, hi, HI, hR, hb⟩ := hrel
        obtain ⟨R, eR⟩ : ∃ R, R = loadR (readK (fb L i)) (rootH L) L.length := ⟨_, rfl⟩
        have hnl : n = (fb L i).length := by have := hR.1; rw [List.length_map, Nat.mul_one] at this; exact this.symm
        have hfn : (fb L i).length ≤ 219 := by
          have h1 := fb_len L i
          have h2 : i * (buildO L).length ≤ 3 * 73 := Nat.mul_le_mul hi (by rw [← E.out.2.2.2.2.1]; exact hn1b)
          omega
        have hloadR : loadZ (readK (fb L i)) A (S.size : Int) = R := by
          rw [loadZ, if_neg (by omega), E.out.2.2.2.1, Int.toNat_natCast, E.out.2.1, eR]
        have c69 : Calls Try.prog 69 #[.agg (bcells A), .int .i64 (S.size : Int), .slice p8 n c8] wr fun e w' => ∃ p n c, e = .returned (.tuple #[.string R.out, .slice p n c, .int .i64 R.er]) ∧ n = R.ws.length ∧
            w'.ownsRow wr.heap.size 29 32 (.slice p n c) n (hcells R.ws) ∧ Below wr.heap.size wr w' :=
          load_strs c8 hnl (by omega) (strs_own hR) (fun s hs => by have := buildO_ok H6.out.2.2.2.2.1 (fb_sub L i s hs); omega) A E.out.1 _ hloadR
        have hround := fb_round H6.out.2.2.2.1 H6.out.2.2.2.2.1 i hi HI.out eR
        have hA8 := hA7.below hb hA7.lt
        have hi5 : (i : Int) < 5 := by omega
        obtain ⟨out, eout⟩ : ∃ o, o = R.out := ⟨_, rfl⟩
        obtain ⟨er, eer⟩ : ∃ o, o = R.er := ⟨_, rfl⟩
        obtain ⟨ws, ews⟩ : ∃ o, o = R.ws := ⟨_, rfl⟩
        rw [← eout, ← eer, ← ews] at c69 hround
        have HR := Lib.hid (And.intro c69 (And.intro hR (And.intro hb (And.intro ews eR))))
        clear c69 hR hb hloadR hnl hfn eout eer ews eR
        rcases hround with ⟨rfl, hout, hws, hcase⟩ | ⟨rfl, hout, hwne, hwnd, hwl, hi3, hL0⟩
        · rw [H6.out.2.2.2.2.2] at hout
          subst hout
          go_wp2_with (refine wpList_ld_row (d := 92) G (bcells A) rfl 29 hA8 Try.underlying29 rfl (by rw [size29, bcells_size, E.out.1]) ?_; simp only [List.setIfInBounds_toArray, List.set_cons_succ, List.set_cons_zero])
          refine HR.out.1.mono ?_
          rintro e w9 ⟨p9, n9, c9, rfl, hn9, hR9, hb9⟩
          have hbw9 : Below w.heap.size w w9 := H7.out.1.trans ((HR.out.2.2.1.trans (hb9.mono HR.out.2.2.1.size)).mono H7.out.1.size)
          have HB := Lib.hid hbw9
          clear hn9 hR9 hb9 hbw9 hA8
          rcases hcase with ⟨rfl, hne⟩ | ⟨hnil, rfl⟩
          · go_wp2_with (go_at_call 39; refine (num_any2 _ _).mono ?_; rintro e w' ⟨rfl, rfl⟩)
            go_ret
            exact ⟨rfl, HB.out⟩
          · have hSe : out = ⟨#[]⟩ := by rw [← H6.out.2.2.2.2.2, hnil]
            subst hSe
            go_wp2_with (go_at_call 39; refine (num_any2 _ _).mono ?_; rintro e w' ⟨rfl, rfl⟩)
            go_ret
            exact ⟨rfl, HB.out⟩
        · have hwl0 : ¬ ((ws.length : Nat) : Int) = 0 := fun e => hwne (List.length_eq_zero_iff.1 (by omega))
          subst hout
          go_wp2_with (refine wpList_ld_row (d := 92) G (bcells A) rfl 29 hA8 Try.underlying29 rfl (by rw [size29, bcells_size, E.out.1]) ?_; simp only [List.setIfInBounds_toArray, List.set_cons_succ, List.set_cons_zero])
          refine HR.out.1.mono ?_
          rintro e w9 ⟨p9, n9, c9, rfl, hn9, hR9, hb9⟩
          have hn90 : ¬ (n9 : Int) = 0 := by rw [hn9]; exact hwl0
          clear hwl0
          obtain ⟨wo, ewo⟩ : ∃ wo : World, wo = wr := ⟨_, rfl⟩
          subst ewo
          obtain ⟨gh, ch, e1, hghN, hghl, _, _⟩ := row_form hR9 (by intro e; injection e with _ e _; omega)
          injection e1 with e1 _ e2
          subst e1; subst e2
          have hn9b : n9 ≤ 9223372036854775807 := by have := row_cap hR9; simp only [maxLen] at this; omega
          have hRw := row_below HR.out.2.1 hb9
          rw [← fbJ_zero] at hRw
          have hb79 : Below w7.heap.size w7 w9 := HR.out.2.2.1.trans (hb9.mono HR.out.2.2.1.size)
          have hews := HR.out.2.2.2.1
          have heR := HR.out.2.2.2.2
          rw [heR] at hews
          have HW := Lib.hid (And.intro hews (And.intro hwnd (And.intro hwl (And.intro hn9 hL0))))
          clear hb9 HR hews heR hwnd hwl hn9 hL0 hwne hA8
          go_wp2_with (go_at_call 39; refine (num_any2 _ _).mono ?_; rintro e w' ⟨rfl, rfl⟩)
          go_loopw [16, 21, 22] (fun t16 t21 _ wr => ∃ (j n c : Nat) (p : Option Addr), t16 = .slice p n c ∧ t21 = .int .i64 (j : Int) ∧ j ≤ n1 ∧ wr.ownsRow w7.heap.size 9 1 (.slice p n c) n ((fbJ L i j).map SV) ∧ Hid (wr.ownsRow wo.heap.size 29 32 (.slice (some ⟨gh, 0, none⟩) n9 c9) n9 (hcells ws)) ∧ Below w7.heap.size w7 wr) (fun _ t21 _ _ => n1 - (intOf t21).toNat)
          case atStart => exact ⟨0, n, c8, p8, rfl, rfl, by omega, hRw, Lib.hid hR9, hb79⟩
          case round =>
            clear hRw hR9 hb79
            obtain ⟨j, n, c8, p8, rfl, rfl, hj, hR, HH, hb⟩ := hrel
            by_cases h2 : j < n1
            · have hjO : j < (buildO L).length := by rw [← E.out.2.2.2.2.1]; exact h2
              obtain ⟨O, eO⟩ : ∃ O, O = (buildO L)[j] := ⟨_, rfl⟩
              have hOs : O.size ≤ 258 := buildO_ok H6.out.2.2.2.2.1 (by rw [eO]; exact List.getElem_mem hjO)
              have hOe : (buildO L)[j]? = some O := by rw [List.getElem?_eq_getElem hjO, eO]
              rw [← fbQ_zero L i j ws O] at hR
              have HOO := Lib.hid (And.intro eO (And.intro hOs hOe))
              have HRR := Lib.hid (And.intro hR hb)
              clear eO hOs hOe hR hb
              go_wp2
              go_loopw [16, 22] (fun t16 t22 wr => ∃ (q n c : Nat) (p : Option Addr), t16 = .slice p n c ∧ t22 = .int .i64 (q : Int) ∧ q ≤ n9 ∧ wr.ownsRow w7.heap.size 9 1 (.slice p n c) n ((fbQ L i j q ws O).map SV) ∧ Hid (wr.ownsRow wo.heap.size 29 32 (.slice (some ⟨gh, 0, none⟩) n9 c9) n9 (hcells ws)) ∧ Below w7.heap.size w7 wr) (fun _ t22 _ => n9 - (intOf t22).toNat)
              case atStart => exact ⟨0, n, c8, p8, rfl, rfl, by omega, HRR.out.1, HH, HRR.out.2⟩
              case round =>
                clear HRR HH
                obtain ⟨q, n, c8, p8, rfl, rfl, hq, hR, HH, hb⟩ := hrel
                by_cases h3 : q < n9
                · have hqw : q < ws.length := by rw [← HW.out.2.2.2.1]; exact h3
                  obtain ⟨Wq, eWq⟩ : ∃ W, W = ws[q] := ⟨_, rfl⟩
                  have hWl : Wq.length = 32 := by rw [eWq]; exact HW.out.2.2.1 _ (List.getElem_mem hqw)
                  obtain ⟨Ho, eHo⟩ : ∃ H, H = objH O := ⟨_, rfl⟩
                  have hHol : Ho.length = 32 := by rw [eHo]; exact objH_length O
                  have hn400 : n ≤ 400 := by
                    have h1 := fbQ_few L H6.out.2.2.2.2.1 i j q hi ws O
                    have h2 := hR.1
                    rw [List.length_map, Nat.mul_one] at h2
                    omega
                  have hb3 : ∀ x, Below w3.heap.size w3 (later wr x) := fun x => H7.out.2.trans ((hb.trans ((later_below wr x).mono hb.size)).mono H7.out.2.size)
                  have hcq : ∀ x, (later wr x).cell? ⟨g, j, none⟩ = some (.string O) := fun x => HO.out.1 _ (hb3 x) j O HOO.out.2.2
                  have hrg : ∀ x, (later wr x).rangeAt gh (q * 32) (bcells Wq).toList := fun x m v hv => by
                    have hm : m < 32 := by
                      have := (List.getElem?_eq_some_iff.1 hv).1
                      rwa [Array.length_toList, bcells_size, hWl] at this
                    have h1 := (row_below HH.out (later_below wr x)).cells (g := gh) rfl (q * 32 + m) v (by rw [hcells_get ws HW.out.2.2.1 q hqw m hm, ← eWq]; exact hv)
                    rw [Addr.add_mid, Nat.zero_add] at h1
                    exact h1
                  have c58 : ∀ x, Calls Try.prog 58 #[.string O] (later wr x) fun e w'' => e = .returned (.agg (bcells Ho)) ∧ ∃ k, w'' = later wr k := fun x => by rw [eHo]; exact later_call (obj_any O _ (by have := HOO.out.2.1; omega))
                  have hR9 : ∀ x, (later wr x).ownsRow w7.heap.size 9 1 (.slice p8 n c8) n ((fbQ L i j q ws O).map SV) := fun x => row_below hR (later_below wr x)
                  have hH9 : ∀ x, (later wr x).ownsRow wo.heap.size 29 32 (.slice (some ⟨gh, 0, none⟩) n9 c9) n9 (hcells ws) := fun x => row_below HH.out (later_below wr x)
                  have hb9 : ∀ x, Below w7.heap.size w7 (later wr x) := fun x => hb.trans ((later_below wr x).mono hb.size)
                  have HK := Lib.hid (And.intro hrg (And.intro c58 (And.intro hR9 (And.intro hH9 hb9))))
                  have HL := Lib.hid hWl
                  clear hrg c58 hR9 hH9 hb9 hR HH hb hb3
                  by_cases h4 : Ho = Wq
                  · have hfb := fbQ_hit L i j q ws O hqw HW.out.2.1 (by rw [← eHo, ← eWq]; exact h4)
                    have HF := Lib.hid hfb
                    have heq : ∀ w', (binOp .eql 29 (.agg (bcells Ho)) (.agg (bcells Wq))).run Try.prog w' = .ok (.bool true) w' := fun w' => by rw [eql_bytes w' Ho Wq hHol hWl, decide_eq_true h4]
                    have heq2 : ∀ w', (Op.equalIn 10000 29 (.agg (bcells Ho)) (.agg (bcells Wq))).run Try.prog w' = .ok true w' := fun w' => by rw [run_equal_bytes w' Ho Wq hHol hWl, decide_eq_true h4]
                    clear hfb h4 eWq eHo hWl hHol hqw
                    go_upto_region 32 with fail
                    refine wp_region_later (by kernel_rfl) (by kernel_rfl) ?_
                    repeat (first
                      | (refine wpQuiet_ld_g (d := 151) gh (q * 32) (bcells Wq).toList rfl rfl (by rintro _ ⟨x, rfl⟩; exact HK.out.1 x) Try.underlying29 rfl (by rw [size29, Array.length_toList, bcells_size, HL.out]) ?_; simp only [List.setIfInBounds_toArray, List.set_cons_succ, List.set_cons_zero, Array.toArray_toList])
                      | (go_big_quiet_step ((go_at_call 58; exact HK.out.2.1 _))))
                    refine wpQuiet_nil ?_
                    rintro _ ⟨x, rfl⟩
                    have hcx := hcq x
                    have hRx := HK.out.2.2.1 x
                    have hHx := HK.out.2.2.2.1 x
                    have hbx := HK.out.2.2.2.2 x
                    obtain ⟨wx, ewx⟩ : ∃ wx, wx = later wr x := ⟨_, rfl⟩
                    rw [← ewx] at hcx hRx hHx hbx ⊢
                    have hba : Below wx.heap.size wx (wx.alloc (.cells #[.string O] 9)) := (Below.refl _ _).alloc (Nat.le_refl _) _
                    have hRa := row_below hRx hba
                    have hHa := row_below hHx hba
                    have hsrc := src_one (Blk.new wx 9 #[.string O])
                    have hbxa := hbx.trans (hba.mono hbx.size)
                    have b1 : n + 1 ≤ maxLen := by simp only [maxLen]; omega
                    have b2 : (n + 1) * 16 ≤ 140737488355328 := by omega
                    have HA := Lib.hid (And.intro hRa (And.intro hsrc (And.intro hHa hbxa)))
                    clear hRa hsrc hHa hbxa hba hRx hHx hbx heq heq2 hcq ewx
                    go_wp2_with (at_builtin; refine wpList_app (d := 159) _ w7.heap.size 9 i9 (.string ⟨#[]⟩) 1 16 Try.underlying23 hi9 hz9 hz91 hz92 rfl (.slice p8 n c8) n _ rfl HA.out.1 _ 1 _ rfl HA.out.2.1 b1 b2 HA.out.2.2.2.size ?_; intro v8 w8 hR8 hg8 _ _; obtain ⟨pn, cn, rfl⟩ := row_slice hR8; simp only [List.setIfInBounds_toArray, List.set_cons_succ, List.set_cons_zero])
                    have hH8 := HA.out.2.2.1.kept hg8 (rows_apart HA.out.2.2.1 HA.out.1 (by decide))
                    have hb8 := HA.out.2.2.2.grown hg8 HA.out.2.2.2.size (fun g e => (HA.out.1.lt g e).1)
                    have hR8' : w8.ownsRow w7.heap.size 9 1 (.slice pn (n + 1) cn) (n + 1) ((fbQ L i j (q + 1) ws O).map SV) := by
                      rw [HF.out, List.map_append]; exact hR8
                    exact ⟨⟨q + 1, n + 1, cn, pn, rfl, by go_num, by omega, hR8', Lib.hid hH8, hb8⟩, by simp [intOf]; omega⟩
                  · have hfb := fbQ_miss L i j q ws O hqw (by rw [← eHo, ← eWq]; exact h4)
                    have HF := Lib.hid hfb
                    have heq : ∀ w', (binOp .eql 29 (.agg (bcells Ho)) (.agg (bcells Wq))).run Try.prog w' = .ok (.bool false) w' := fun w' => by rw [eql_bytes w' Ho Wq hHol hWl, decide_eq_false h4]
                    have heq2 : ∀ w', (Op.equalIn 10000 29 (.agg (bcells Ho)) (.agg (bcells Wq))).run Try.prog w' = .ok false w' := fun w' => by rw [run_equal_bytes w' Ho Wq hHol hWl, decide_eq_false h4]
                    clear hfb h4 eWq eHo hWl hHol hqw
                    go_upto_region 32 with fail
                    refine wp_region_later (by kernel_rfl) (by kernel_rfl) ?_
                    repeat (first
                      | (refine wpQuiet_ld_g (d := 151) gh (q * 32) (bcells Wq).toList rfl rfl (by rintro _ ⟨x, rfl⟩; exact HK.out.1 x) Try.underlying29 rfl (by rw [size29, Array.length_toList, bcells_size, HL.out]) ?_; simp only [List.setIfInBounds_toArray, List.set_cons_succ, List.set_cons_zero, Array.toArray_toList])
                      | (go_big_quiet_step ((go_at_call 58; exact HK.out.2.1 _))))
                    refine wpQuiet_nil ?_
                    rintro _ ⟨x, rfl⟩
                    have HX := Lib.hid (And.intro (HK.out.2.2.1 x) (And.intro (HK.out.2.2.2.1 x) (HK.out.2.2.2.2 x)))
                    go_wp2
                    have hR8' : (later wr x).ownsRow w7.heap.size 9 1 (.slice p8 n c8) n ((fbQ L i j (q + 1) ws O).map SV) := by
                      rw [HF.out]; exact HX.out.1
                    exact ⟨⟨q + 1, n, c8, p8, rfl, by go_num, by omega, hR8', Lib.hid HX.out.2.1, HX.out.2.2⟩, by simp [intOf]; omega⟩
                · obtain rfl : n9 = q := by omega
                  have hR8 : wr.ownsRow w7.heap.size 9 1 (.slice p8 n c8) n ((fbJ L i (j + 1)).map SV) := by
                    rw [← fbQ_end L i j n9 ws (by rw [← E.out.2.2.2.2.1]; exact h2) HW.out.1 (by rw [← HW.out.2.2.2.1]; exact Nat.le_refl _), ← HOO.out.1]
                    exact hR
                  have HX := Lib.hid (And.intro hR8 (And.intro HH.out hb))
                  clear hR8 hR hb HH
                  go_wp2
                  exact ⟨⟨j + 1, n, c8, p8, rfl, by go_num, by omega, HX.out.1, Lib.hid HX.out.2.1, HX.out.2.2⟩, by simp [intOf]; omega⟩
            · obtain rfl : n1 = j := by omega
              have hR8 : wr.ownsRow w7.heap.size 9 1 (.slice p8 n c8) n ((fb L (i + 1)).map SV) := by
                rw [← fbJ_end L i n1 (by rw [← E.out.2.2.2.2.1]; exact Nat.le_refl _)]
                exact hR
              have HX := Lib.hid (And.intro hR8 hb)
              clear hR8 hR hb HH
              go_wp2
              exact ⟨⟨i + 1, n, c8, p8, rfl, by go_num, by omega, Lib.hid (fun e => by have := HW.out.2.2.2.2 e; omega), HX.out.1, HX.out.2⟩, by simp [intOf]; omega⟩
end Go.Proofs.Ytmhbkilpllgchaa
