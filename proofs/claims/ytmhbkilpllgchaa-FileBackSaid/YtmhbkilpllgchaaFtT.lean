/- awake of law 12. -/
import Derived.Test.YtmhbkilpllgchaaFtS
namespace Go.Proofs.Ytmhbkilpllgchaa
open Go.RowKit BigFrame
set_option linter.unusedVariables false
set_option linter.unusedSimpArgs false

/-- A slice literal at the operation, under a guard that holds. -/
theorem wpList_bs_g {P : Program} {ops : Array Oper} {rest : List Oper} {a : Act} {w w' : World} {Q : Exit → Act → World → Prop} {d : Nat} {ty ot : TypeId} {len : Nat} {parts : Array (Nat × Operand)} {pos : String} {after : Array Edge} {gd : Option (Nat × Bool)} (vals : Array (Nat × Value)) (v : Value)
    (hgd : Region.wanted ⟨some d, .buildSlice ty len parts, ot, pos, after, gd⟩ (yielded ops a.tmps) = true)
    (hx : (parts.map fun (i, x) => (i, a.eval x)) = vals) (hr : (Instr.buildSlice ty len vals).run P w = .ok v w')
    (h : wpList P ops Q rest ⟨a.tmps.setIfInBounds d v, a.defers⟩ w') : wpList P ops Q (⟨some d, .buildSlice ty len parts, ot, pos, after, gd⟩ :: rest) a w :=
  wpList_step fun K hK => by
    rw [if_pos hgd]
    unfold Oper.wp execOp
    simp only [hx, hr, Sem.run_bind, Sem.run_pure, Result.andThen_ok, Oper.upon]
    exact hK _ _ h
theorem hashAt_own {w : World} {base m c : Nat} {p : Option Addr} {hs : List (List UInt8)} (h : w.ownsRow base 29 32 (.slice p m c) m (hcells hs)) (hm : m = hs.length) (hl : ∀ L ∈ hs, L.length = 32) : HashAt w p hs := by
  obtain ⟨D, _, h⟩ := hashAt_row h hm hl
  exact h
theorem load_strs {w : World} {p : Option Addr} {ss : List ByteArray} {n : Nat} (c : Nat) (en : n = ss.length) (hn : ss.length ≤ 1000000) (hx : Strs w p ss) (hz : ∀ s ∈ ss, s.size ≤ 140737488351232) (root : List UInt8) (hr : root.length = 32) (z : Int) {R : LR} (eR : loadZ (readK ss) root z = R) :
    Calls Try.prog 69 #[.agg (bcells root), .int .i64 z, .slice p n c] w fun e w' => ∃ p n c, e = .returned (.tuple #[.string R.out, .slice p n c, .int .i64 R.er]) ∧ n = R.ws.length ∧
      w'.ownsRow w.heap.size 29 32 (.slice p n c) n (hcells R.ws) ∧ Below w.heap.size w w' := by
  subst en
  subst eR
  exact load_any c (by omega) hx hz root hr z

set_option maxRecDepth 100000 in
set_option maxHeartbeats 8000000 in
theorem awake12_any (w : World) : Calls Try.prog 68 #[] w fun e w' => e = .returned (.bool true) ∧ Below w.heap.size w w' := by
  obtain ⟨i0, hi0, hz0, hz1, hz2⟩ := info_parts info5
  obtain ⟨A, eA⟩ : ∃ A, A = rootH [97, 98] := ⟨_, rfl⟩
  have hAl : A.length = 32 := by rw [eA]; exact objH_length _
  obtain ⟨OB, eOB⟩ : ∃ O, O = [abB, abI, abR] := ⟨_, rfl⟩
  have hOl : 3 = OB.length := by rw [eOB]; rfl
  have hOz : ∀ s ∈ OB, s.size ≤ 140737488351232 := fun s hs => by
    rw [eOB] at hs
    simp only [List.mem_cons, List.not_mem_nil, or_false] at hs
    rcases hs with rfl | rfl | rfl
    · rw [ab_1]; decide
    · rw [ab_2]; decide
    · rw [ab_3]; decide
  have c1 : ∀ w', Calls Try.prog 66 #[.string ⟨#[97, 98]⟩] w' fun e w'' => ∃ p c, e = .returned (.tuple #[.agg (bcells A), .slice p 3 c, .int .i64 0]) ∧ w''.ownsRow w'.heap.size 9 1 (.slice p 3 c) 3 (OB.map SV) ∧ Below w'.heap.size w' w'' := fun w' => by
    refine (build_any ⟨#[97, 98]⟩ w' (by decide)).mono ?_
    rintro e w'' ⟨p, m, c, rfl, hm, hR, hb⟩
    have e1 : buildO (⟨#[97, 98]⟩ : ByteArray).data.toList = OB := by rw [eOB]; exact ab_O
    rw [e1] at hm hR
    rw [← hOl] at hm
    subst hm
    exact ⟨p, c, by rw [eA], hR, hb⟩
  have c2 : ∀ w' p c, Strs w' p OB → Calls Try.prog 69 #[.agg (bcells A), .int .i64 2, .slice p 3 c] w' fun e w'' => ∃ p c, e = .returned (.tuple #[.string ⟨#[97, 98]⟩, .slice p 0 c, .int .i64 0]) ∧ Below w'.heap.size w' w'' := fun w' p c h => by
    refine (load_strs c hOl (by omega) h hOz A hAl 2 (R := ⟨⟨#[97, 98]⟩, [], 0⟩) (by rw [eOB, eA]; exact ab_load2)).mono ?_
    rintro e w'' ⟨p, n, c, rfl, hn, _, hb⟩
    obtain rfl : n = 0 := hn
    exact ⟨p, c, rfl, hb⟩
  have c3 : ∀ w', Calls Try.prog 69 #[.agg (bcells A), .int .i64 2, .slice none 0 0] w' fun e w'' => ∃ p c, e = .returned (.tuple #[.string ⟨#[]⟩, .slice p 1 c, .int .i64 1201]) ∧ HashAt w'' p [A] ∧ Below w'.heap.size w' w'' := fun w' => by
    refine (load_strs (ss := []) 0 rfl (by decide) ⟨fun _ => rfl, fun a e => by cases e⟩ (fun s h => by cases h) A hAl 2 (R := ⟨⟨#[]⟩, [rootH [97, 98]], 1201⟩) (by rw [eA]; exact ab_load0)).mono ?_
    rintro e w'' ⟨p, n, c, rfl, hn, hR, hb⟩
    obtain rfl : n = 1 := hn
    rw [← eA] at hR
    exact ⟨p, c, rfl, hashAt_own hR rfl (fun L h => by rw [List.mem_singleton.1 h]; exact hAl), hb⟩
  have c4 : ∀ w' p c, Strs w' p OB → Calls Try.prog 69 #[.agg (bcells A), .int .i64 3, .slice p 3 c] w' fun e w'' => ∃ p c, e = .returned (.tuple #[.string ⟨#[]⟩, .slice p 0 c, .int .i64 1200]) ∧ Below w'.heap.size w' w'' := fun w' p c h => by
    refine (load_strs c hOl (by omega) h hOz A hAl 3 (R := ⟨⟨#[]⟩, [], 1200⟩) (by rw [eOB, eA]; exact ab_load3)).mono ?_
    rintro e w'' ⟨p, n, c, rfl, hn, _, hb⟩
    obtain rfl : n = 0 := hn
    exact ⟨p, c, rfl, hb⟩
  obtain ⟨Z, eZ⟩ : ∃ Z : List UInt8, Z = List.replicate 4097 0 := ⟨_, rfl⟩
  have hZl : Z.length = 4097 := by rw [eZ, List.length_replicate]
  have c5 : ∀ w', Calls Try.prog 66 #[.string ⟨Z.toArray⟩] w' fun e w'' => e = .returned (.tuple #[.agg (bcells zeros32), .slice none 0 0, .int .i64 1200]) ∧ Below w'.heap.size w' w'' := fun w' =>
    build_big _ w' (by rw [ba_list]; rw [hZl]; decide) (by rw [ba_list]; rw [hZl]; decide)
  have hzl : zeros32.length = 32 := by rw [zeros32, List.length_replicate]
  have hcell : ∀ {w' : World} {p c}, w'.ownsRow w.heap.size 9 1 (.slice p 3 c) 3 (OB.map SV) → ∃ g, p = some ⟨g, 0, none⟩ ∧ g < w'.heap.size ∧ w'.cell? ⟨g, 0, none⟩ = some (.string ⟨#[66, 97, 98]⟩) := fun {w' p c} hR => by
    obtain ⟨g, c', e, _, hlt, _, _⟩ := row_form hR (by intro e; injection e with _ e _; cases e)
    injection e with e1 _ e2
    subst e1; subst e2
    have := hR.cells (g := g) rfl 0 (.string abB) (by rw [eOB]; rfl)
    rw [Addr.add_mid] at this
    exact ⟨g, rfl, hlt, this⟩
  have C := Lib.hid (And.intro c1 (And.intro c2 (And.intro c3 (And.intro c4 c5))))
  have E := Lib.hid (And.intro hAl (And.intro hzl (And.intro eZ (And.intro hZl (And.intro @hcell hOl)))))
  clear c1 c2 c3 c4 c5 eA hAl eOB hOl hOz eZ hZl hzl hcell
  go_enter Try.func68, Try.ntmps68
  go_wp2_with fail
  refine (C.out.1 w).mono ?_
  rintro e w1 ⟨p, c, rfl, hR1, hb1⟩
  have hA0 : Blk (w1.alloc (.cells z32 29)) w1.heap.size 29 z32 := Blk.new _ _ _
  have hA1 : Blk ((w1.alloc (.cells z32 29)).setRow w1.heap.size (bcells A)) w1.heap.size 29 (bcells A) := hA0.row _
  have hbx : Below w1.heap.size w1 ((w1.alloc (.cells z32 29)).setRow w1.heap.size (bcells A)) := below_setRow ((Below.refl _ _).alloc (Nat.le_refl _) _) (Nat.le_refl _) _
  have hR2 := row_below hR1 hbx
  have hb2 := hb1.trans (hbx.mono hb1.size)
  have hgr : ∀ g, (Value.slice p 3 c).ownBlock = some g → g < w1.heap.size := fun g e => (hR1.lt g e).2
  go_upto_region 2 with (refine wpList_alN (d := 1) z32 zero29 w1.heap.size rfl (wpList_st_row w1.heap.size (bcells A) rfl rfl 29 z32 hA0 (by rw [size29, bcells_size, E.out.1]) (by rw [bcells_size, E.out.1]; rfl) (bcells_one _) ?_); simp only [List.setIfInBounds_toArray, List.set_cons_succ, List.set_cons_zero])
  obtain ⟨w2, e2⟩ : ∃ w2, w2 = (w1.alloc (.cells z32 29)).setRow w1.heap.size (bcells A) := ⟨_, rfl⟩
  obtain ⟨G, eG⟩ : ∃ G, G = w1.heap.size := ⟨_, rfl⟩
  rw [← e2] at hA1 hR2 hb2 ⊢
  rw [← eG] at hA1 ⊢
  have H2 := Lib.hid (And.intro hR2 hb2)
  clear e2 eG hA0 hbx hR1 hb1 hR2 hb2 hgr
  go_wp2_with (refine wpList_ld_row (d := 22) G (bcells A) rfl 29 hA1 Try.underlying29 rfl (by rw [size29, bcells_size, E.out.1]) ?_; simp only [List.setIfInBounds_toArray, List.set_cons_succ, List.set_cons_zero])
  refine (C.out.2.1 w2 p c (strs_own H2.out.1)).mono ?_
  rintro e w3 ⟨p3, c3, rfl, hb3⟩
  have hA3 := hA1.below hb3 hA1.lt
  have H3 := Lib.hid (And.intro (row_below H2.out.1 hb3) (H2.out.2.trans (hb3.mono H2.out.2.size)))
  clear hb3 hA1 H2
  go_wp2_with (refine wpList_ld_row (d := 29) G (bcells A) rfl 29 hA3 Try.underlying29 rfl (by rw [size29, bcells_size, E.out.1]) ?_; simp only [List.setIfInBounds_toArray, List.set_cons_succ, List.set_cons_zero])
  refine (C.out.2.2.1 w3).mono ?_
  rintro e w4 ⟨p4, c4, rfl, hh4, hb4⟩
  have hA4 := hA3.below hb4 hA3.lt
  have H4 := Lib.hid (And.intro (row_below H3.out.1 hb4) (And.intro (H3.out.2.trans (hb4.mono H3.out.2.size)) hh4))
  clear hb4 hA3 H3 hh4
  go_wp2_with (refine wpList_ld_row (d := 35) G (bcells A) rfl 29 hA4 Try.underlying29 rfl (by rw [size29, bcells_size, E.out.1]) ?_; simp only [List.setIfInBounds_toArray, List.set_cons_succ, List.set_cons_zero])
  refine (C.out.2.2.2.1 w4 p c (strs_own H4.out.1)).mono ?_
  rintro e w5 ⟨p5, c5, rfl, hb5⟩
  have hA5 := hA4.below hb5 hA4.lt
  have H5 := Lib.hid (And.intro (row_below H4.out.1 hb5) (And.intro (H4.out.2.1.trans (hb5.mono H4.out.2.1.size)) (H4.out.2.2.below hb5)))
  clear hb5 hA4 H4
  go_upto_region 5 with fail
  go_wp2_with (first
    | (refine wpList_mk (d := 42) w5.heap.size 4097 4097 rfl (by decide) rfl rfl rfl hi0 hz0 hz1 hz2 ?_; intro w6 hZ6 hb6 hs6; simp only [List.setIfInBounds_toArray, List.set_cons_succ, List.set_cons_zero])
    | (refine wpList_str (d := 43) w5.heap.size 4097 4097 Z E.out.2.2.2.1 rfl (by rw [E.out.2.2.1]; exact hZ6) ?_; simp only [List.setIfInBounds_toArray, List.set_cons_succ, List.set_cons_zero]))
  refine (C.out.2.2.2.2 w6).mono ?_
  rintro e w7 ⟨rfl, hb7⟩
  have hb57 : Below w5.heap.size w5 w7 := hb6.trans (hb7.mono hb6.size)
  have hA7 := hA5.below hb57 hA5.lt
  have hR7 := row_below H5.out.1 hb57
  have hb7' := H5.out.2.1.trans (hb57.mono H5.out.2.1.size)
  have hh7 := H5.out.2.2.below hb57
  have hB0 : Blk (w7.alloc (.cells z32 29)) w7.heap.size 29 z32 := Blk.new _ _ _
  have hbx : Below w7.heap.size w7 ((w7.alloc (.cells z32 29)).setRow w7.heap.size (bcells zeros32)) := below_setRow ((Below.refl _ _).alloc (Nat.le_refl _) _) (Nat.le_refl _) _
  have hA8 := hA7.below hbx hA7.lt
  have H8 := Lib.hid (And.intro (row_below hR7 hbx) (And.intro (hb7'.trans (hbx.mono hb7'.size)) (hh7.below hbx)))
  clear hb57 hb6 hb7 hs6 hZ6 hA5 H5 hR7 hb7' hh7 hbx hA7
  go_upto_region 6 with (refine wpList_alN (d := 13) z32 zero29 w7.heap.size rfl (wpList_st_row w7.heap.size (bcells zeros32) rfl rfl 29 z32 hB0 (by rw [size29, bcells_size, E.out.2.1]) (by rw [bcells_size, E.out.2.1]; rfl) (bcells_one _) ?_); simp only [List.setIfInBounds_toArray, List.set_cons_succ, List.set_cons_zero])
  obtain ⟨w8, e8⟩ : ∃ w8, w8 = (w7.alloc (.cells z32 29)).setRow w7.heap.size (bcells zeros32) := ⟨_, rfl⟩
  rw [← e8] at hA8 H8 ⊢
  clear e8 hB0
  obtain ⟨g, ep, hg8, hc8⟩ := E.out.2.2.2.2.1 H8.out.1
  subst ep
  have hbx : Below w8.heap.size w8 (w8.alloc (.cells (bcells A) 29)) := (Below.refl _ _).alloc (Nat.le_refl _) _
  have hh9 := H8.out.2.2.below hbx
  have hn9 : HashAt (w8.alloc (.cells (bcells A) 29)) (some ⟨w8.heap.size, 0, none⟩) [A] := .inr ⟨w8.heap.size, 0, rfl, by simp, by
    have := range_of_blk (Blk.new w8 29 (bcells A))
    simpa [hcells] using this⟩
  have c89 : Calls Try.prog 89 #[.slice p4 1 c4, .slice (some ⟨w8.heap.size, 0, none⟩) 1 1] (w8.alloc (.cells (bcells A) 29)) fun e w' => e = .returned (.bool true) ∧ Below (w8.alloc (.cells (bcells A) 29)).heap.size (w8.alloc (.cells (bcells A) 29)) w' := samehashs_same (hs := [A]) c4 1 hh9 hn9 (fun L h => by rw [List.mem_singleton.1 h]; exact E.out.1) (by simp)
  have HC := Lib.hid (And.intro c89 hbx)
  clear c89 hbx hh9 hn9
  go_wp2_with (first
    | (go_at_call 39; refine (num_any2 _ _).mono ?_; rintro e w' ⟨rfl, rfl⟩)
    | (refine wpList_ld_g (d := 78) G (bcells A) rfl rfl 29 hA8 Try.underlying29 rfl (by rw [size29, bcells_size, E.out.1]) ?_; simp only [List.setIfInBounds_toArray, List.set_cons_succ, List.set_cons_zero])
    | (refine wpList_bs_g (d := 79) #[(0, .agg (bcells A))] _ rfl (by rw [List.map_toArray]; rfl) (buildS82 A E.out.1 w8) ?_; simp only [List.setIfInBounds_toArray, List.set_cons_succ, List.set_cons_zero])
    | (go_at_call 89; refine HC.out.1.mono ?_; rintro e w9 ⟨rfl, hb9⟩; clear hc8 hA8))
  go_ret
  have hbw9 := H8.out.2.1.trans (HC.out.2.mono H8.out.2.1.size)
  exact ⟨rfl, hbw9.trans (hb9.mono hbw9.size)⟩
end Go.Proofs.Ytmhbkilpllgchaa
