/- The walk of ConsoleRuns. -/
import Derived.Test.YtmhbkilpllgchaaGreatDoorCy
import Derived.Test.YtmhbkilpllgchaaGreatDoorMgCwx
namespace Go.Proofs.YtmhbkilpllgchaaGreatDoor
open Go.RowKit BigFrame
set_option linter.unusedVariables false
set_option linter.unusedSimpArgs false

set_option maxRecDepth 100000 in
set_option maxHeartbeats 8000000 in
theorem runs_big (s : ByteArray) (w : World) (hL : Laid w) (hbig : 65536 < s.size) : Calls Tryz.prog 3 #[.string s] w fun e w' => e = .returned (.bool true) ∧ Below w.heap.size w w' := by
  have c7 := run_any s w hL
  rw [runF, if_pos hbig, runE, if_pos hbig] at c7
  have hbig' : (65536 : Int) < (s.size : Int) := by omega
  have HC := Lib.hid (And.intro c7 hL)
  clear c7 hL
  go_enter Tryz.func3, Tryz.ntmps3
  go_wp2_with fail
  refine HC.out.1.mono ?_
  rintro e w1 ⟨rfl, hb1⟩
  have c9 := awake_any w1 (HC.out.2.below hb1)
  have H9 := Lib.hid c9
  clear c9
  go_wp2_with fail
  refine (num_any2 _ _).mono ?_
  rintro e w2 ⟨rfl, rfl⟩
  go_wp2_with fail
  refine H9.out.mono ?_
  rintro e w3 ⟨rfl, hb3⟩
  go_wp2
  go_ret
  exact ⟨rfl, hb1.trans (hb3.mono hb1.size)⟩

set_option maxRecDepth 100000 in
set_option maxHeartbeats 32000000 in
theorem runs_small (s : ByteArray) (w : World) (hL : Laid w) (hsm : s.size ≤ 65536) : Calls Tryz.prog 3 #[.string s] w fun e w' => e = .returned (.bool true) ∧ Below w.heap.size w w' := by
  obtain ⟨i0, hi0, hz0, hz1, hz2⟩ := info_parts info5z
  have c7 := run_any s w hL
  rw [runF, if_neg (by omega), runE, if_neg (by omega)] at c7
  have hsm' : (s.size : Int) ≤ 65536 := by omega
  obtain ⟨Z, eZ⟩ : ∃ Z, Z = runL (lines s) := ⟨_, rfl⟩
  rw [← eZ] at c7
  obtain ⟨ZB, eZB⟩ : ∃ ZB : ByteArray, ZB = ⟨Z.toArray⟩ := ⟨_, rfl⟩
  rw [← eZB] at c7
  have HC := Lib.hid (And.intro c7 (And.intro hL (And.intro eZ eZB)))
  clear c7 hL eZ eZB
  go_enter Tryz.func3, Tryz.ntmps3
  go_wp2_with fail
  refine HC.out.1.mono ?_
  rintro e w1 ⟨rfl, hb1⟩
  have HB1 := Lib.hid hb1
  clear hb1
  go_wp2
  go_loopw [5, 6, 7, 8] (fun t5 t6 t7 _ wr => ∃ (p : Option Addr) (k c f i : Nat) (R : List UInt8) (xs : List Value), t5 = .slice p k c ∧ t6 = .int .i64 (f : Int) ∧ t7 = .int .i64 (i : Int) ∧ f ≤ i ∧ i ≤ s.size + 1 ∧ k ≤ 201 * f ∧ wr.ownsRow w.heap.size 5 1 (.slice p k c) k xs ∧ Hid (k = R.length) ∧ Hid (xs = R.map B) ∧ Hid (Lns s f i R) ∧ Below w.heap.size w wr) (fun _ _ t7 _ _ => s.size + 2 - (intOf t7).toNat)
  case atStart => exact ⟨none, 0, 0, 0, 0, [], [], rfl, rfl, rfl, Nat.le_refl _, by omega, by omega, World.ownsRow_nil _ _ _ _, Lib.hid rfl, Lib.hid rfl, Lib.hid (Lns.start s), HB1.out⟩
  case round =>
    obtain ⟨p, k, c, f, i, R, xs, rfl, rfl, rfl, hfi, hin, hk, hR, HK, HXS, HL, hbw⟩ := hrel
    have hwr := hbw.size
    by_cases hi : i ≤ s.size
    · have hi' : (i : Int) ≤ (s.size : Int) := by omega
      obtain ⟨b, hb⟩ : ∃ b, b = bt s i := ⟨_, rfl⟩
      by_cases hA : i < s.size ∧ b ≠ 10
      · obtain ⟨hlt, h10⟩ := hA
        have hL2 := HL.out.on hlt (by rw [← hb]; exact h10)
        have HL2 := Lib.hid hL2
        have hb' := hb.symm
        have hlt' : (i : Int) < (s.size : Int) := by omega
        have m10 : ¬ (b.toNat : Int) = 10 := fun e => h10 ((u8_ne b 10).1 e)
        have o10 : ((b.toNat : Int) != 10) = true := by rw [bne_iff_ne]; exact m10
        have p10 : ((b.toNat : Int) == 10) = false := by rw [beq_eq_false_iff_ne]; exact m10
        clear hb h10 hL2 m10
        go_wp2
        go_roundw
        case rel => exact ⟨p, k, c, f, i + 1, R, xs, rfl, rfl, by go_num, by omega, by omega, hk, hR, HK, HXS, HL2, hbw⟩
        case measure => simp [intOf]; omega
      · by_cases hB : i = s.size ∧ f = i
        · obtain ⟨h1, h2⟩ := hB
          subst h2
          have hL2 := HL.out.skip h1
          have HL2 := Lib.hid hL2
          have g1 : ¬ (f : Int) < (s.size : Int) := by omega
          have g2 : ((f : Int) == (s.size : Int)) = true := by rw [beq_iff_eq]; omega
          have g3 : (f : Int) = (s.size : Int) := by omega
          have g4 : f + 1 ≤ s.size + 1 := by omega
          have G3 := Lib.hid g3
          clear hA hb hL2 g3 h1 hi hin hi'
          go_wp2
          go_roundw
          case rel => exact ⟨p, k, c, f, f + 1, R, xs, rfl, rfl, by go_num, by omega, g4, hk, hR, HK, HXS, HL2, hbw⟩
          case measure => simp [intOf]; have := G3.out; omega
        · have hcut : Lns s (i + 1) (i + 1) (R ++ lineX (s.extract f i)) := by
            by_cases hlt : i < s.size
            · exact (HL.out.cut hlt (by rw [← hb]; exact Decidable.byContradiction fun h => hA ⟨hlt, h⟩)).2
            · exact (HL.out.last (by omega)).2
          have htest : ((i : Int) < (s.size : Int) ∧ i < s.size ∧ bt s i = 10) ∨ (¬ (i : Int) < (s.size : Int) ∧ ((i : Int) == (s.size : Int)) = true ∧ ((f : Int) == (i : Int)) = false) := by
            by_cases hlt : i < s.size
            · exact .inl ⟨by omega, hlt, by rw [← hb]; exact Decidable.byContradiction fun h => hA ⟨hlt, h⟩⟩
            · refine .inr ⟨by omega, by rw [beq_iff_eq]; omega, by rw [beq_eq_false_iff_ne]; omega⟩
          obtain ⟨x, ex⟩ : ∃ x, s.extract f i = x := ⟨_, rfl⟩
          rw [ex] at hcut
          have hxs : x.size ≤ 65536 := by rw [← ex, ByteArray.size_extract]; omega
          have c10 := words_any x wr (by omega)
          obtain ⟨hw1, hw2⟩ := words_short x
          have hlx : lineX x = wordsX (wordsL x) := rfl
          obtain ⟨WS, eWS⟩ : ∃ WS, WS = wordsL x := ⟨_, rfl⟩
          rw [← eWS] at c10 hw1 hw2 hlx
          rw [hlx] at hcut
          have hw1' : ∀ z ∈ WS, z.size ≤ 65536 ∧ z.data.toList ≠ [] := fun z hz => by have := hw1 z hz; exact ⟨by omega, this.2⟩
          have HX := Lib.hid (And.intro c10 (And.intro hw1' hcut))
          have hws : WS.length ≤ 65537 := by omega
          have hfi' : (f : Int) ≤ (i : Int) := by omega
          clear hb hA hB c10 hw1 hw1' hw2 hcut hlx eWS hxs
          cases WS with
          | nil =>
            rcases htest with ⟨g1, g2, g3⟩ | ⟨g1, g2, g3⟩
            all_goals
              go_wp2_with fail
              refine HX.out.1.mono ?_
              rintro e w5 ⟨q, c5, rfl, -, hb5, -, -⟩
              have hR5 := row_below hR hb5
              have hbw5 := hbw.trans (hb5.mono hwr)
              go_wp2
              go_roundw
              case rel => exact ⟨p, k, c, i + 1, i + 1, R, xs, rfl, by go_num, by go_num, by omega, by omega, by omega, hR5, HK, HXS, Lib.hid (by have := HX.out.2.2; simpa [wordsX] using this), hbw5⟩
              case measure => simp [intOf]; omega
          | cons c0 args =>
            obtain ⟨hc0s, hzn⟩ := HX.out.2.1 c0 (by simp)
            have hpos : 0 < c0.size := by
              rcases Nat.eq_zero_or_pos c0.size with h | h
              · exact absurd (List.length_eq_zero_iff.1 (show c0.data.toList.length = 0 from h)) hzn
              · exact h
            have hpos' : (0 : Int) < (c0.size : Int) := by omega
            have hh : c0.data.toList.head? = some (bt c0 0) := by
              rw [bt, List.getD]
              cases hq : c0.data.toList with
              | nil => exact absurd hq hzn
              | cons y t => rfl
            obtain ⟨N, eN⟩ : ∃ N, N = args.length + 1 := ⟨_, rfl⟩
            have ek : (c0 :: args).length = N := by rw [eN]; rfl
            have hN0 : 0 < N := by omega
            have hN0' : (0 : Int) < (N : Int) := by omega
            have hN1 : N ≤ 65537 := by rw [← ek]; exact hws
            have EN := Lib.hid eN
            obtain ⟨y, ey⟩ : ∃ y, y = bt c0 0 := ⟨_, rfl⟩
            have hb' := ey.symm
            rw [← ey] at hh
            clear hzn eN ey hws
            by_cases h35 : y = 35
            · have hskip : wordsX (c0 :: args) = [] := by rw [wordsX, hh, h35]; rfl
              have HSK := Lib.hid hskip
              have y35 : bt c0 0 = 35 := by rw [hb', h35]
              clear hb' hh h35 hskip
              rcases htest with ⟨g1, g2, g3⟩ | ⟨g1, g2, g3⟩
              all_goals
                go_wp2_with fail
                refine HX.out.1.mono ?_
                rintro e w5 ⟨q, c5, rfl, hS5, hb5, hc5, hm5⟩
                obtain ⟨g, o, rfl, hg, hcells⟩ := hS5.form (by simp)
                have hc0 := hcells 0 c0 rfl
                rw [Nat.add_zero] at hc0
                have hR5 := row_below hR hb5
                have hbw5 := hbw.trans (hb5.mono hwr)
                clear hcells hS5
                rw [ek]
                clear ek hc5
                go_wp2
                go_roundw
                case rel => exact ⟨p, k, c, i + 1, i + 1, R, xs, rfl, by go_num, by go_num, by omega, by omega, by omega, hR5, HK, HXS, Lib.hid (by have := HX.out.2.2; rw [HSK.out, List.append_nil] at this; exact this), hbw5⟩
                case measure => simp [intOf]; omega
            · have hline : wordsX (c0 :: args) = ansX c0 args ++ [10] := by
                rw [wordsX, hh, if_neg (fun e => h35 (Option.some.inj e))]
              have m35 : ¬ (y.toNat : Int) = 35 := fun e => h35 ((u8_ne y 35).1 e)
              have o35 : ((y.toNat : Int) == 35) = false := by rw [beq_eq_false_iff_ne]; exact m35
              have q35 : ((y.toNat : Int) != 35) = true := by rw [bne_iff_ne]; exact m35
              obtain ⟨T, eT⟩ : ∃ T : ByteArray, T = ⟨(ansX c0 args).toArray⟩ := ⟨_, rfl⟩
              obtain ⟨m, em⟩ : ∃ m, m = T.size := ⟨_, rfl⟩
              have eml : m = (ansX c0 args).length := by rw [em, eT, size_S]
              have hm : m ≤ 200 := by rw [eml, ansX]; exact cmdO_short c0 args
              have hsrcT : ∀ w', Src Tryz.prog 1 9 (.string T) m ((ansX c0 args).map B) w' := fun w' => by
                have := Src.ofString w' Tryz.underlying9 T
                rw [← em, eT, byteCells_list] at this
                rw [eT]; exact this
              have HT := Lib.hid (And.intro eT (And.intro eml (And.intro hline hsrcT)))
              clear hh h35 m35 eT em eml hline hsrcT
              rcases htest with ⟨g1, g2, g3⟩ | ⟨g1, g2, g3⟩
              all_goals
                go_wp2_with fail
                refine HX.out.1.mono ?_
                rintro e w5 ⟨q, c5, rfl, hS5, hb5, hc5, hm5⟩
                have c11 := toldl_any c0 args q c5 w5 hS5 (fun z hz => by have := HX.out.2.1 z (by simp [hz]); exact ⟨by omega, this.2⟩) (by rw [← EN.out, ← ek]; exact hc5) hm5 (by rw [← EN.out]; omega)
                rw [← HT.out.1, ← EN.out] at c11
                obtain ⟨g, o, rfl, hg, hcells⟩ := hS5.form (by simp)
                have hc0 := hcells 0 c0 rfl
                rw [Nat.add_zero] at hc0
                have hR5 := row_below hR hb5
                have hbw5 := hbw.trans (hb5.mono hwr)
                have H11 := Lib.hid c11
                clear hcells hS5 c11
                rw [ek]
                clear hc5
                go_wp2_with fail
                refine H11.out.mono ?_
                rintro e w6 ⟨rfl, hb6⟩
                have hR6 := row_below hR5 hb6
                have hbw6 := hbw5.trans (hb6.mono hbw5.size)
                have hsz6 := hbw6.size
                have hsrc6 := HT.out.2.2.2 w6
                have b1 : k + m ≤ maxLen := by simp only [maxLen]; omega
                have b2 : (k + m) * 1 ≤ 140737488355328 := by omega
                have b4 : k + m + 1 ≤ maxLen := by simp only [maxLen]; omega
                have b5 : (k + m + 1) * 1 ≤ 140737488355328 := by omega
                clear hR hR5
                go_wp2_with (at_builtin; first
                  | (refine wpList_app _ w.heap.size 5 i0 (.int .u8 0) 1 1 Tryz.underlying27 hi0 hz0 hz1 hz2 rfl (.slice p k c) k xs rfl hR6 (.string T) m _ rfl hsrc6 b1 b2 hsz6 ?_; intro v7 w7 hR7 hg7 _ _; obtain ⟨p7, c7, rfl⟩ := row_slice hR7; simp only [List.setIfInBounds_toArray, List.set_cons_succ, List.set_cons_zero]; have hB7 := hbw6.grown hg7 hsz6 (fun g e => (hR6.lt g e).1); have hsz7 := hB7.size; have hRA : (w7.alloc (.cells #[.int .u8 10] 5)).ownsRow w.heap.size 5 1 (.slice p7 (k + m) c7) (k + m) (xs ++ (ansX c0 args).map B) := row_below hR7 ((Below.refl _ _).alloc (Nat.le_refl _) _); have hsrc7 : Src Tryz.prog 1 27 (.slice (some ⟨w7.heap.size, 0, none⟩) 1 1) 1 [.int .u8 10] (w7.alloc (.cells #[.int .u8 10] 5)) := src_byte (Blk.new w7 5 _) rfl; have b6 : w.heap.size ≤ (w7.alloc (.cells #[.int .u8 10] 5)).heap.size := (by rw [World.size_alloc]; omega); have hBA : Below w.heap.size w (w7.alloc (.cells #[.int .u8 10] 5)) := hB7.alloc hsz7 _; clear hR6 hR7 hB7)
                  | (refine wpList_app _ w.heap.size 5 i0 (.int .u8 0) 1 1 Tryz.underlying27 hi0 hz0 hz1 hz2 rfl (.slice p7 (k + m) c7) (k + m) _ rfl hRA (.slice (some ⟨w7.heap.size, 0, none⟩) 1 1) 1 [.int .u8 10] rfl hsrc7 b4 b5 b6 ?_; intro v8 w8 hR8 hg8 _ _; obtain ⟨p8, c8, rfl⟩ := row_slice hR8; simp only [List.setIfInBounds_toArray, List.set_cons_succ, List.set_cons_zero]))
                go_roundw
                case rel => exact ⟨p8, k + m + 1, c8, i + 1, i + 1, R ++ (ansX c0 args ++ [10]), _, rfl, by go_num, by go_num, by omega, by omega, by omega, hR8, Lib.hid (by rw [List.length_append, List.length_append, ← HK.out, ← HT.out.2.1]; rfl), Lib.hid (by rw [List.map_append, List.map_append, ← HXS.out, List.append_assoc]; rfl), Lib.hid (by rw [← HT.out.2.2.1]; exact HX.out.2.2), hBA.grown hg8 b6 (fun g e => (hRA.lt g e).1)⟩
                case measure => simp [intOf]; omega
    · have hi' : (s.size : Int) < (i : Int) := by omega
      have hR2 := hR
      rw [HXS.out] at hR2
      have hconv := run_str_own wr w.heap.size p c k R HK.out hR2
      have hZ : (⟨R.toArray⟩ : ByteArray) = ZB := by rw [HC.out.2.2.2, HC.out.2.2.1, HL.out.done (by omega)]
      rw [hZ] at hconv
      have c9 := awake_any wr (HC.out.2.1.below hbw)
      have H9 := Lib.hid c9
      clear c9 hZ hR2
      go_wp2_with fail
      refine (num_any2 _ _).mono ?_
      rintro e w2 ⟨rfl, rfl⟩
      go_wp2_with fail
      refine H9.out.mono ?_
      rintro e w3 ⟨rfl, hb3⟩
      go_wp2
      go_ret
      exact ⟨rfl, hbw.trans (hb3.mono hwr)⟩

theorem runs_any (s : ByteArray) (w : World) (hL : Laid w) : Calls Tryz.prog 3 #[.string s] w fun e w' => e = .returned (.bool true) ∧ Below w.heap.size w w' := by
  by_cases h : 65536 < s.size
  · exact runs_big s w hL h
  · exact runs_small s w hL (by omega)
end Go.Proofs.YtmhbkilpllgchaaGreatDoor
