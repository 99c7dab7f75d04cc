/- console.Run. -/
import Derived.Test.YtmhbkilpllgchaaGreatDoorMgCru
namespace Go.Proofs.YtmhbkilpllgchaaGreatDoor
open Go.RowKit BigFrame
set_option linter.unusedVariables false
set_option linter.unusedSimpArgs false

set_option maxRecDepth 100000 in
theorem RunI.ws {w1 w : World} {b A : Nat} {LS : List ByteArray} {l : List UInt8} (h : RunI w1 w b A LS l) (sl : List UInt8) (S U : ByteArray) (hS : S = ⟨sl.toArray⟩) (hU : S ++ ⟨#[10]⟩ = U) (hlen : l.length + sl.length + 1 ≤ 140737488355328) :
    Calls Tryz.prog 19 #[.pointer (some ⟨b, 0, none⟩), .string U] w fun e w' => (∃ v, e = .returned v) ∧ RunI w1 w' b A LS (l ++ (sl ++ [10])) := by
  have e : U = ⟨(sl ++ [10]).toArray⟩ := by rw [← hU]; exact add_S (by rw [hS]) rfl
  rw [e]
  have hz : (⟨(sl ++ [10]).toArray⟩ : ByteArray).size = sl.length + 1 := by
    show (sl ++ [10]).toArray.size = _
    simp
  have c := t_Builder_WriteString_k b b (Lib.byteCells l) ⟨(sl ++ [10]).toArray⟩ w h.bld (by rw [Lib.byteCells_length, hz]; omega) (by have := h.below.size; have := h.eb; omega)
  refine c.mono ?_
  rintro r w' ⟨rfl, h1, h2, h3⟩
  exact ⟨⟨_, rfl⟩, h.write h1 h2 h3⟩

set_option maxRecDepth 100000 in
set_option maxHeartbeats 32000000 in
theorem run_any (s : ByteArray) (w : World) (hL : Laid w) : Calls Tryz.prog 7 #[.string s] w fun e w' => e = .returned (.tuple #[.string ⟨(runF s).toArray⟩, .int .i64 (runE s)]) ∧ Below w.heap.size w w' := by
  by_cases hbig : 65536 < s.size
  · have hbig' : (65536 : Int) < (s.size : Int) := by omega
    have e1 : runF s = [] := by rw [runF, if_pos hbig]
    have e2 : runE s = 2701 := by rw [runE, if_pos hbig]
    rw [e1, e2]
    clear e1 e2 hbig hL
    go_enter Tryz.func7, Tryz.ntmps7
    go_wp2
    go_ret2
    exact ⟨rfl, Below.refl _ _⟩
  · have hsm : (s.size : Int) ≤ (65536 : Int) := by omega
    have hsm2 : s.size ≤ 65536 := by omega
    have e1 : runF s = runL (lines s) := by rw [runF, if_neg hbig]
    have e2 : runE s = 0 := by rw [runE, if_neg hbig]
    rw [e1, e2]
    obtain ⟨hl1, hl2⟩ := lines_short s
    have hrl := runL_short (lines s)
    have cL := clines_any s
    obtain ⟨LS, eLS⟩ : ∃ LS, LS = lines s := ⟨_, rfl⟩
    rw [← eLS] at hl1 hl2 hrl cL ⊢
    obtain ⟨n, en⟩ : ∃ n, n = LS.length := ⟨_, rfl⟩
    obtain ⟨R, eR⟩ : ∃ R, R = runL LS := ⟨_, rfl⟩
    rw [← eR] at hrl ⊢
    have hn : n ≤ 65537 := by omega
    have hn' : (n : Int) ≤ 65537 := by omega
    have HS := Lib.hid (And.intro hl1 (And.intro cL (And.intro hL (And.intro en eR))))
    have HLN := Lib.hid (And.intro hl2 hrl)
    clear hl1 cL hL en eR hl2 hrl e1 e2 eLS hbig
    go_enter Tryz.func7, Tryz.ntmps7
    go_wp2_with fail
    refine (cmds_any w).mono ?_
    rintro e w1 ⟨rfl, hC, hb1⟩
    obtain ⟨m0, hm0⟩ := (HS.out.2.2.1.below hb1).max
    have hmA : (w1.alloc (.cells #[.pointer none, .slice none 0 0] 45)).cell? ⟨0, 0, none⟩ = some (.int .i64 m0) := by
      have := (Below.refl w1.heap.size w1).alloc (Nat.le_refl _) (.cells #[.pointer none, .slice none 0 0] 45)
      exact (this.cell (p := ⟨0, 0, none⟩) (lt_of_cell hm0)).trans hm0
    have cL := HS.out.2.1 m0 _ (by omega) hmA
    rw [← HS.out.2.2.2.1, World.size_alloc] at cL
    have HC := Lib.hid (And.intro cL (And.intro hC hb1))
    have hI := RunI.new w1 LS
    have HI := Lib.hid hI
    clear cL hmA hm0 hC hb1 hI
    go_wp2_with fail
    refine HC.out.1.mono ?_
    rintro e w3 ⟨rfl, rfl⟩
    have hI := HI.out
    have hM := HC.out.2.1
    obtain ⟨b, eb⟩ : ∃ b, b = w1.heap.size := ⟨_, rfl⟩
    obtain ⟨M, eM⟩ : ∃ M, M = w.heap.size := ⟨_, rfl⟩
    rw [← eb] at hI
    rw [← eM] at hM
    obtain ⟨A, eA⟩ : ∃ A, A = b + 1 := ⟨_, rfl⟩
    rw [← eA] at hI
    obtain ⟨w4, e4⟩ : ∃ w4, w4 = (w1.alloc (.cells #[.pointer none, .slice none 0 0] 45)).alloc (.cells (LS.map Value.string).toArray 9) := ⟨_, rfl⟩
    rw [← e4] at hI ⊢
    rw [← eb, ← eA, ← eM]
    have HM := Lib.hid hM
    have HI4 := Lib.hid hI
    have HL1 := Lib.hid (HS.out.2.2.1.below HC.out.2.2)
    have HW := Lib.hid (And.intro HC.out.2.2 eM)
    clear hI hM e4 eb eM eA HI HC
    go_wp2
    go_loopw [7, 8, 9, 10, 11, 12, 13, 21] (fun _ _ _ _ _ _ _ t21 wr => ∃ (j : Nat), t21 = .int .i64 (j : Int) ∧ j ≤ n ∧ Hid (RunI w1 wr b A LS (runL (LS.take j)))) (fun _ _ _ _ _ _ _ t21 _ => n - (intOf t21).toNat)
    case atStart => exact ⟨0, rfl, Nat.zero_le _, Lib.hid HI4.out⟩
    case round =>
      obtain ⟨j, rfl, hjn, HJ⟩ := hrel
      by_cases hlt : j < n
      · have hlt' : (j : Int) < (n : Int) := by omega
        obtain ⟨x, hx⟩ : ∃ x, LS[j]? = some x := by
          have : j < LS.length := by rw [← HS.out.2.2.2.1]; exact hlt
          exact ⟨_, List.getElem?_eq_getElem this⟩
        have hcell : wr.cell? ⟨A, j, none⟩ = some (.string x) := by
          rw [HJ.out.blk.cell]
          simp [hx]
        have hxs := HS.out.1 x (List.mem_of_getElem? hx)
        have hnext := runL_next hx
        have cF := fields_full x wr (by omega)
        obtain ⟨hw1, hw2⟩ := words_short x
        have hlx : lineX x = wordsX (wordsL x) := rfl
        have hsh := runL_short (LS.take j)
        have hsh2 := lineX_short x
        rw [List.length_take] at hsh
        obtain ⟨WS, eWS⟩ : ∃ WS, WS = wordsL x := ⟨_, rfl⟩
        rw [← eWS] at cF hw1 hw2 hlx
        rw [hlx] at hnext hsh2
        have HX := Lib.hid (And.intro cF (And.intro hw1 hnext))
        have HY := Lib.hid (And.intro hsh hsh2)
        clear cF hw1 hnext hlx eWS hx hsh hsh2
        go_wp2_with fail
        refine HX.out.1.mono ?_
        rintro e w5 ⟨p, rfl, hSt, hb5⟩
        have hI5 := HJ.out.on hb5
        cases WS with
        | nil =>
          have HI5 := Lib.hid hI5
          clear hI5 hSt hcell
          go_wp2
          go_roundw
          case rel => exact ⟨j + 1, by go_num, by omega, Lib.hid (by rw [HX.out.2.2]; simpa [wordsX] using HI5.out)⟩
          case measure => simp [intOf]; omega
        | cons c0 args =>
          obtain ⟨g, o, rfl, hg, hcells⟩ := hSt.form (by simp)
          have hc0 := hcells 0 c0 rfl
          rw [Nat.add_zero] at hc0
          have hta := strs_tail hg hcells
          obtain ⟨hz0, hzn⟩ := HX.out.2.1 c0 (by simp)
          have hpos : 0 < c0.size := by
            rcases Nat.eq_zero_or_pos c0.size with h | h
            · exact absurd (List.length_eq_zero_iff.1 (show c0.data.toList.length = 0 from h)) hzn
            · exact h
          have hpos' : (0 : Int) < (c0.size : Int) := by omega
          have ek : (c0 :: args).length = args.length + 1 := rfl
          rw [ek]
          have hka : args.length ≤ 65536 := by rw [ek] at hw2; omega
          have hka' : (args.length : Int) ≤ 65536 := by omega
          have hh : c0.data.toList.head? = some (bt c0 0) := by
            rw [bt, List.getD]
            cases hq : c0.data.toList with
            | nil => exact absurd hq hzn
            | cons y t => rfl
          obtain ⟨y, ey⟩ : ∃ y, y = bt c0 0 := ⟨_, rfl⟩
          have hb' := ey.symm
          rw [← ey] at hh
          by_cases h35 : y = 35
          · have hskip : wordsX (c0 :: args) = [] := by rw [wordsX, hh, h35]; rfl
            have HI5 := Lib.hid (And.intro hI5 hskip)
            have y35 : bt c0 0 = 35 := by rw [hb', h35]
            clear hb' hh h35 ey hskip hcells hta hw2 ek hSt hzn
            go_wp2
            go_roundw
            case rel => exact ⟨j + 1, by go_num, by omega, Lib.hid (by rw [HX.out.2.2, HI5.out.2, List.append_nil]; exact HI5.out.1)⟩
            case measure => simp [intOf]; omega
          · have hline : wordsX (c0 :: args) = ansX c0 args ++ [10] := by
              rw [wordsX, hh, if_neg (fun e => h35 (Option.some.inj e))]
            have m35 : ¬ (y.toNat : Int) = 35 := fun e => h35 ((u8_ne y 35).1 e)
            have o35 : ((y.toNat : Int) == 35) = false := by rw [beq_eq_false_iff_ne]; exact m35
            have cT := toldc_any 2700 [] w5 (hI5.laid HL1.out) (by omega) (by omega)
            have eT : toldL 2700 [] = errT 2700 := by rw [toldL, if_neg (by omega)]
            rw [eT] at cT
            obtain ⟨T, eTT⟩ : ∃ T : ByteArray, T = ⟨(errT 2700).toArray⟩ := ⟨_, rfl⟩
            rw [← eTT] at cT
            have HT := Lib.hid (And.intro cT (And.intro eTT (And.intro hline (And.intro hta hI5))))
            clear cT eTT eT hline hta hh h35 ey hcells hSt hzn hw2 ek hI5 m35
            go_wp2_with fail
            refine HT.out.1.mono ?_
            rintro e w6 ⟨rfl, hb6⟩
            have hc6 : w6.cell? ⟨g, o, none⟩ = some (.string c0) := (hb6.cell (p := ⟨g, o, none⟩) hg).trans hc0
            have hI6 := HT.out.2.2.2.2.on hb6
            have hC6 := hI6.cmds HM.out
            have hL6 := hI6.laid HL1.out
            have hta6 := HT.out.2.2.2.1.below hb6
            have hpk := pick_cmd M c0 args w6 hL6 hC6 (fun z hz => by have := HX.out.2.1 z (by simp [hz]); exact ⟨by omega, this.2⟩) (by omega)
            have hlk := hC6.map.lookup c0
            have HI6 := Lib.hid hI6
            have HTA := Lib.hid hta6
            clear hI6 hC6 hL6 hta6
            have hlen : (runL (LS.take j)).length + (ansX c0 args).length + 1 ≤ 140737488355328 := by
              have h1 := HY.out.1
              have h2 := cmdO_short c0 args
              rw [ansX]
              omega
            have HLEN := Lib.hid hlen
            clear hlen
            rcases hpk with ⟨f1, f2⟩ | ⟨B, f1, f2⟩ | ⟨f1, f2⟩ | ⟨f1, f2⟩
            · rw [f1] at hlk
              have hans : ansX c0 args = errT 2700 := by rw [ansX, f2]; rfl
              obtain ⟨U, eU⟩ : ∃ U, T ++ ⟨#[10]⟩ = U := ⟨_, rfl⟩
              have hTs : T.size ≤ 200 := by
                have := cmdO_short c0 args
                rw [← ansX, hans] at this
                rw [HT.out.2.1]
                show (errT 2700).toArray.size ≤ _
                rw [List.size_toArray]; exact this
              have hadd : ∀ w', (Op.stringOp .add T ⟨#[10]⟩).run Tryz.prog w' = .ok (.string U) w' := fun w' => add_texts w' _ _ (by show (T.size + 1 : Nat) ≤ _; omega) eU
              have c19 := HI6.out.ws (ansX c0 args) T U (by rw [hans]; exact HT.out.2.1) eU HLEN.out
              have HK := Lib.hid (And.intro hlk c19)
              clear hlk f1 f2 c19 hans eU hTs
              go_wp2_with (refine wpList_lk (d := 43) (.map (some M)) (.string c0) _ rfl rfl HK.out.1 ?_; simp only [List.setIfInBounds_toArray, List.set_cons_succ, List.set_cons_zero])
              refine HK.out.2.mono ?_
              rintro e w8 ⟨⟨v8, rfl⟩, hI8⟩
              have HI8 := Lib.hid hI8
              clear hI8
              go_wp2
              go_roundw
              case rel => exact ⟨j + 1, by go_num, by omega, Lib.hid (by rw [HX.out.2.2, HT.out.2.2.1]; exact HI8.out)⟩
              case measure => simp [intOf]; omega
            · rw [f1] at hlk
              change _ = Result.ok (Value.tuple #[Value.func (.func 50) #[] #[.pointer (some ⟨B, 0, none⟩)], Value.bool true]) w6 at hlk
              have f3 := f2 _ HTA.out
              have f4 : args.length = 0 → Calls Tryz.prog 50 #[.slice (some ⟨g, o, none⟩) 0 0, .pointer (some ⟨B, 0, none⟩)] w6 fun e w' => e = .returned (ansV (cmdO c0 args)) ∧ Below w6.heap.size w6 w' := fun h0 => by
                have := f2 (some ⟨g, o, none⟩) (by rw [List.length_eq_zero_iff.1 h0]; exact ⟨fun _ => rfl, fun a e j hj => absurd hj (Nat.not_lt_zero j)⟩)
                rw [h0] at this
                exact this
              clear f2
              cases hcm : cmdO c0 args with
              | none =>
                rw [hcm, show ansV none = Value.tuple #[.string ⟨#[]⟩, .bool false] from rfl] at f3 f4
                have hans : ansX c0 args = errT 2700 := by rw [ansX, hcm]; rfl
                obtain ⟨U, eU⟩ : ∃ U, T ++ ⟨#[10]⟩ = U := ⟨_, rfl⟩
                have hTs : T.size ≤ 200 := by
                  have := cmdO_short c0 args
                  rw [← ansX, hans] at this
                  rw [HT.out.2.1]
                  show (errT 2700).toArray.size ≤ _
                  rw [List.size_toArray]; exact this
                have hadd : ∀ w', (Op.stringOp .add T ⟨#[10]⟩).run Tryz.prog w' = .ok (.string U) w' := fun w' => add_texts w' _ _ (by show (T.size + 1 : Nat) ≤ _; omega) eU
                have c19 : ∀ w', RunI w1 w' b A LS (runL (LS.take j)) → _ := fun w' h => h.ws (ansX c0 args) T U (by rw [hans]; exact HT.out.2.1) eU HLEN.out
                have HK := Lib.hid (And.intro hlk (And.intro f3 (And.intro f4 c19)))
                clear hlk f1 f3 f4 hcm hans c19 eU hTs
                rcases (show args.length = 0 ∨ ¬ args.length = 0 by omega) with ha | ha
                all_goals
                  go_wp2_with (refine wpList_lk (d := 43) (.map (some M)) (.string c0) _ rfl rfl HK.out.1 ?_; simp only [List.setIfInBounds_toArray, List.set_cons_succ, List.set_cons_zero])
                all_goals
                  first
                    | with_reducible refine HK.out.2.1.mono ?_
                    | with_reducible refine (HK.out.2.2.1 (by omega)).mono ?_
                  rintro e w7 ⟨rfl, hb7⟩
                  have HI7 := Lib.hid (HI6.out.on hb7)
                  go_wp2_with fail
                  refine (HK.out.2.2.2 _ HI7.out).mono ?_
                  rintro e w8 ⟨⟨v8, rfl⟩, hI8⟩
                  have HI8 := Lib.hid hI8
                  clear hI8
                  go_wp2
                  go_roundw
                  case rel => exact ⟨j + 1, by go_num, by omega, Lib.hid (by rw [HX.out.2.2, HT.out.2.2.1]; exact HI8.out)⟩
                  case measure => simp [intOf]; omega
              | some sl =>
                rw [hcm] at f3 f4
                have hans : ansX c0 args = sl := by rw [ansX, hcm]; rfl
                obtain ⟨S, eS⟩ : ∃ S : ByteArray, S = ⟨sl.toArray⟩ := ⟨_, rfl⟩
                rw [ansV, Option.getD_some, Option.isSome_some, ← eS] at f3 f4
                obtain ⟨U, eU⟩ : ∃ U, S ++ ⟨#[10]⟩ = U := ⟨_, rfl⟩
                have hTs : S.size ≤ 200 := by
                  have := cmdO_short c0 args
                  rw [← ansX, hans] at this
                  rw [eS]
                  show sl.toArray.size ≤ _
                  rw [List.size_toArray]; exact this
                have hadd : ∀ w', (Op.stringOp .add S ⟨#[10]⟩).run Tryz.prog w' = .ok (.string U) w' := fun w' => add_texts w' _ _ (by show (S.size + 1 : Nat) ≤ _; omega) eU
                have c19 : ∀ w', RunI w1 w' b A LS (runL (LS.take j)) → _ := fun w' h => h.ws (ansX c0 args) S U (by rw [hans]; exact eS) eU HLEN.out
                have HK := Lib.hid (And.intro hlk (And.intro f3 (And.intro f4 c19)))
                clear hlk f1 f3 f4 hcm hans c19 eU hTs eS
                rcases (show args.length = 0 ∨ ¬ args.length = 0 by omega) with ha | ha
                all_goals
                  go_wp2_with (refine wpList_lk (d := 43) (.map (some M)) (.string c0) _ rfl rfl HK.out.1 ?_; simp only [List.setIfInBounds_toArray, List.set_cons_succ, List.set_cons_zero])
                all_goals
                  first
                    | with_reducible refine HK.out.2.1.mono ?_
                    | with_reducible refine (HK.out.2.2.1 (by omega)).mono ?_
                  rintro e w7 ⟨rfl, hb7⟩
                  have HI7 := Lib.hid (HI6.out.on hb7)
                  go_wp2_with fail
                  refine (HK.out.2.2.2 _ HI7.out).mono ?_
                  rintro e w8 ⟨⟨v8, rfl⟩, hI8⟩
                  have HI8 := Lib.hid hI8
                  clear hI8
                  go_wp2
                  go_roundw
                  case rel => exact ⟨j + 1, by go_num, by omega, Lib.hid (by rw [HX.out.2.2, HT.out.2.2.1]; exact HI8.out)⟩
                  case measure => simp [intOf]; omega
            · rw [f1] at hlk
              change _ = Result.ok (Value.tuple #[Value.func (.func 37) #[] #[], Value.bool true]) w6 at hlk
              have f3 := f2 _ HTA.out
              have f4 : args.length = 0 → Calls Tryz.prog 37 #[.slice (some ⟨g, o, none⟩) 0 0] w6 fun e w' => e = .returned (ansV (cmdO c0 args)) ∧ Below w6.heap.size w6 w' := fun h0 => by
                have := f2 (some ⟨g, o, none⟩) (by rw [List.length_eq_zero_iff.1 h0]; exact ⟨fun _ => rfl, fun a e j hj => absurd hj (Nat.not_lt_zero j)⟩)
                rw [h0] at this
                exact this
              clear f2
              cases hcm : cmdO c0 args with
              | none =>
                rw [hcm, show ansV none = Value.tuple #[.string ⟨#[]⟩, .bool false] from rfl] at f3 f4
                have hans : ansX c0 args = errT 2700 := by rw [ansX, hcm]; rfl
                obtain ⟨U, eU⟩ : ∃ U, T ++ ⟨#[10]⟩ = U := ⟨_, rfl⟩
                have hTs : T.size ≤ 200 := by
                  have := cmdO_short c0 args
                  rw [← ansX, hans] at this
                  rw [HT.out.2.1]
                  show (errT 2700).toArray.size ≤ _
                  rw [List.size_toArray]; exact this
                have hadd : ∀ w', (Op.stringOp .add T ⟨#[10]⟩).run Tryz.prog w' = .ok (.string U) w' := fun w' => add_texts w' _ _ (by show (T.size + 1 : Nat) ≤ _; omega) eU
                have c19 : ∀ w', RunI w1 w' b A LS (runL (LS.take j)) → _ := fun w' h => h.ws (ansX c0 args) T U (by rw [hans]; exact HT.out.2.1) eU HLEN.out
                have HK := Lib.hid (And.intro hlk (And.intro f3 (And.intro f4 c19)))
                clear hlk f1 f3 f4 hcm hans c19 eU hTs
                rcases (show args.length = 0 ∨ ¬ args.length = 0 by omega) with ha | ha
                all_goals
                  go_wp2_with (refine wpList_lk (d := 43) (.map (some M)) (.string c0) _ rfl rfl HK.out.1 ?_; simp only [List.setIfInBounds_toArray, List.set_cons_succ, List.set_cons_zero])
                all_goals
                  first
                    | with_reducible refine HK.out.2.1.mono ?_
                    | with_reducible refine (HK.out.2.2.1 (by omega)).mono ?_
                  rintro e w7 ⟨rfl, hb7⟩
                  have HI7 := Lib.hid (HI6.out.on hb7)
                  go_wp2_with fail
                  refine (HK.out.2.2.2 _ HI7.out).mono ?_
                  rintro e w8 ⟨⟨v8, rfl⟩, hI8⟩
                  have HI8 := Lib.hid hI8
                  clear hI8
                  go_wp2
                  go_roundw
                  case rel => exact ⟨j + 1, by go_num, by omega, Lib.hid (by rw [HX.out.2.2, HT.out.2.2.1]; exact HI8.out)⟩
                  case measure => simp [intOf]; omega
              | some sl =>
                rw [hcm] at f3 f4
                have hans : ansX c0 args = sl := by rw [ansX, hcm]; rfl
                obtain ⟨S, eS⟩ : ∃ S : ByteArray, S = ⟨sl.toArray⟩ := ⟨_, rfl⟩
                rw [ansV, Option.getD_some, Option.isSome_some, ← eS] at f3 f4
                obtain ⟨U, eU⟩ : ∃ U, S ++ ⟨#[10]⟩ = U := ⟨_, rfl⟩
                have hTs : S.size ≤ 200 := by
                  have := cmdO_short c0 args
                  rw [← ansX, hans] at this
                  rw [eS]
                  show sl.toArray.size ≤ _
                  rw [List.size_toArray]; exact this
                have hadd : ∀ w', (Op.stringOp .add S ⟨#[10]⟩).run Tryz.prog w' = .ok (.string U) w' := fun w' => add_texts w' _ _ (by show (S.size + 1 : Nat) ≤ _; omega) eU
                have c19 : ∀ w', RunI w1 w' b A LS (runL (LS.take j)) → _ := fun w' h => h.ws (ansX c0 args) S U (by rw [hans]; exact eS) eU HLEN.out
                have HK := Lib.hid (And.intro hlk (And.intro f3 (And.intro f4 c19)))
                clear hlk f1 f3 f4 hcm hans c19 eU hTs eS
                rcases (show args.length = 0 ∨ ¬ args.length = 0 by omega) with ha | ha
                all_goals
                  go_wp2_with (refine wpList_lk (d := 43) (.map (some M)) (.string c0) _ rfl rfl HK.out.1 ?_; simp only [List.setIfInBounds_toArray, List.set_cons_succ, List.set_cons_zero])
                all_goals
                  first
                    | with_reducible refine HK.out.2.1.mono ?_
                    | with_reducible refine (HK.out.2.2.1 (by omega)).mono ?_
                  rintro e w7 ⟨rfl, hb7⟩
                  have HI7 := Lib.hid (HI6.out.on hb7)
                  go_wp2_with fail
                  refine (HK.out.2.2.2 _ HI7.out).mono ?_
                  rintro e w8 ⟨⟨v8, rfl⟩, hI8⟩
                  have HI8 := Lib.hid hI8
                  clear hI8
                  go_wp2
                  go_roundw
                  case rel => exact ⟨j + 1, by go_num, by omega, Lib.hid (by rw [HX.out.2.2, HT.out.2.2.1]; exact HI8.out)⟩
                  case measure => simp [intOf]; omega
            · rw [f1] at hlk
              change _ = Result.ok (Value.tuple #[Value.func (.func 38) #[] #[], Value.bool true]) w6 at hlk
              have f3 := f2 _ HTA.out
              have f4 : args.length = 0 → Calls Tryz.prog 38 #[.slice (some ⟨g, o, none⟩) 0 0] w6 fun e w' => e = .returned (ansV (cmdO c0 args)) ∧ Below w6.heap.size w6 w' := fun h0 => by
                have := f2 (some ⟨g, o, none⟩) (by rw [List.length_eq_zero_iff.1 h0]; exact ⟨fun _ => rfl, fun a e j hj => absurd hj (Nat.not_lt_zero j)⟩)
                rw [h0] at this
                exact this
              clear f2
              cases hcm : cmdO c0 args with
              | none =>
                rw [hcm, show ansV none = Value.tuple #[.string ⟨#[]⟩, .bool false] from rfl] at f3 f4
                have hans : ansX c0 args = errT 2700 := by rw [ansX, hcm]; rfl
                obtain ⟨U, eU⟩ : ∃ U, T ++ ⟨#[10]⟩ = U := ⟨_, rfl⟩
                have hTs : T.size ≤ 200 := by
                  have := cmdO_short c0 args
                  rw [← ansX, hans] at this
                  rw [HT.out.2.1]
                  show (errT 2700).toArray.size ≤ _
                  rw [List.size_toArray]; exact this
                have hadd : ∀ w', (Op.stringOp .add T ⟨#[10]⟩).run Tryz.prog w' = .ok (.string U) w' := fun w' => add_texts w' _ _ (by show (T.size + 1 : Nat) ≤ _; omega) eU
                have c19 : ∀ w', RunI w1 w' b A LS (runL (LS.take j)) → _ := fun w' h => h.ws (ansX c0 args) T U (by rw [hans]; exact HT.out.2.1) eU HLEN.out
                have HK := Lib.hid (And.intro hlk (And.intro f3 (And.intro f4 c19)))
                clear hlk f1 f3 f4 hcm hans c19 eU hTs
                rcases (show args.length = 0 ∨ ¬ args.length = 0 by omega) with ha | ha
                all_goals
                  go_wp2_with (refine wpList_lk (d := 43) (.map (some M)) (.string c0) _ rfl rfl HK.out.1 ?_; simp only [List.setIfInBounds_toArray, List.set_cons_succ, List.set_cons_zero])
                all_goals
                  first
                    | with_reducible refine HK.out.2.1.mono ?_
                    | with_reducible refine (HK.out.2.2.1 (by omega)).mono ?_
                  rintro e w7 ⟨rfl, hb7⟩
                  have HI7 := Lib.hid (HI6.out.on hb7)
                  go_wp2_with fail
                  refine (HK.out.2.2.2 _ HI7.out).mono ?_
                  rintro e w8 ⟨⟨v8, rfl⟩, hI8⟩
                  have HI8 := Lib.hid hI8
                  clear hI8
                  go_wp2
                  go_roundw
                  case rel => exact ⟨j + 1, by go_num, by omega, Lib.hid (by rw [HX.out.2.2, HT.out.2.2.1]; exact HI8.out)⟩
                  case measure => simp [intOf]; omega
              | some sl =>
                rw [hcm] at f3 f4
                have hans : ansX c0 args = sl := by rw [ansX, hcm]; rfl
                obtain ⟨S, eS⟩ : ∃ S : ByteArray, S = ⟨sl.toArray⟩ := ⟨_, rfl⟩
                rw [ansV, Option.getD_some, Option.isSome_some, ← eS] at f3 f4
                obtain ⟨U, eU⟩ : ∃ U, S ++ ⟨#[10]⟩ = U := ⟨_, rfl⟩
                have hTs : S.size ≤ 200 := by
                  have := cmdO_short c0 args
                  rw [← ansX, hans] at this
                  rw [eS]
                  show sl.toArray.size ≤ _
                  rw [List.size_toArray]; exact this
                have hadd : ∀ w', (Op.stringOp .add S ⟨#[10]⟩).run Tryz.prog w' = .ok (.string U) w' := fun w' => add_texts w' _ _ (by show (S.size + 1 : Nat) ≤ _; omega) eU
                have c19 : ∀ w', RunI w1 w' b A LS (runL (LS.take j)) → _ := fun w' h => h.ws (ansX c0 args) S U (by rw [hans]; exact eS) eU HLEN.out
                have HK := Lib.hid (And.intro hlk (And.intro f3 (And.intro f4 c19)))
                clear hlk f1 f3 f4 hcm hans c19 eU hTs eS
                rcases (show args.length = 0 ∨ ¬ args.length = 0 by omega) with ha | ha
                all_goals
                  go_wp2_with (refine wpList_lk (d := 43) (.map (some M)) (.string c0) _ rfl rfl HK.out.1 ?_; simp only [List.setIfInBounds_toArray, List.set_cons_succ, List.set_cons_zero])
                all_goals
                  first
                    | with_reducible refine HK.out.2.1.mono ?_
                    | with_reducible refine (HK.out.2.2.1 (by omega)).mono ?_
                  rintro e w7 ⟨rfl, hb7⟩
                  have HI7 := Lib.hid (HI6.out.on hb7)
                  go_wp2_with fail
                  refine (HK.out.2.2.2 _ HI7.out).mono ?_
                  rintro e w8 ⟨⟨v8, rfl⟩, hI8⟩
                  have HI8 := Lib.hid hI8
                  clear hI8
                  go_wp2
                  go_roundw
                  case rel => exact ⟨j + 1, by go_num, by omega, Lib.hid (by rw [HX.out.2.2, HT.out.2.2.1]; exact HI8.out)⟩
                  case measure => simp [intOf]; omega
      · have ej : n = j := by omega
        have hall : runL (LS.take j) = R := by rw [← ej, HS.out.2.2.2.1, List.take_length]; exact HS.out.2.2.2.2.symm
        have hJ := HJ.out
        rw [hall] at hJ
        have c20 := t_Builder_String_any_k b b R wr hJ.bld (by have := hJ.below.size; have := hJ.eb; omega)
        have HE := Lib.hid (And.intro c20 hJ)
        clear c20 hJ hall hlt
        subst ej
        go_wp2_with fail
        refine HE.out.1.mono ?_
        rintro e w8 ⟨rfl, -, hb8, -⟩
        go_wp2
        go_ret2
        have h1 := HE.out.2.below.trans hb8
        exact ⟨rfl, HW.out.1.trans (h1.mono (by have := HW.out.1.size; have := HE.out.2.eb; omega))⟩
end Go.Proofs.YtmhbkilpllgchaaGreatDoor
