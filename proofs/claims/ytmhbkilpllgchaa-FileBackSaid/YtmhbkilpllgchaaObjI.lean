/- The walk of ObjectRoom. -/
import Derived.Test.YtmhbkilpllgchaaObjH
namespace Go.Proofs.Ytmhbkilpllgchaa
open Go.RowKit BigFrame
set_option linter.unusedVariables false
set_option linter.unusedSimpArgs false

theorem SV_map (ss : List ByteArray) : ∀ u ∈ ss.map SV, u.oneCell' = true := SV_one ss
theorem src_one {w : World} {g : Nat} {s : ByteArray} (h : Blk w g 9 #[.string s]) : Src Try.prog 1 23 (.slice (some ⟨g, 0, none⟩) 1 1) 1 [.string s] w := by
  refine Src.ofSlice _ Try.underlying23 _ 1 1 _ rfl (fun j u hu => ?_) (fun u hu => by
    simp only [List.mem_cons, List.not_mem_nil, or_false] at hu
    subst hu; rfl)
  rw [Addr.add_mid, Nat.zero_add, h.cell]
  simpa using hu
theorem conv_one (w : World) (bn : Nat) (b : UInt8) (h : bn = b.toNat) (g : Nat) (hg : g = w.heap.size) : (convert 35 9 (.slice (some ⟨g, 0, none⟩) 1 1)).run Try.prog (w.alloc (.cells #[.int .u8 (bn : Int)] 5)) = .ok (.string ⟨#[b]⟩) (w.alloc (.cells #[.int .u8 (bn : Int)] 5)) := by
  subst h; subst hg
  exact run_str _ _ 1 [b] (Blk.new w 5 _)
theorem add_o (w : World) (b : UInt8) : (Op.stringOp .add ⟨#[111]⟩ ⟨#[b]⟩).run Try.prog w = .ok (.string (oT b)) w := by
  rw [run_string_add_sum w _ _ (by show (1 + 1 : Nat) ≤ 9223372036854775807; decide), o_text]

set_option maxRecDepth 100000 in
set_option maxHeartbeats 20000000 in
theorem room_any (most : Int) (pa : Option Addr) (zs : List Int) (c : Nat) (w : World) (hm1 : -9223372036854775808 ≤ most) (hm2 : most ≤ 9223372036854775807) (hx : Ints w pa zs) (hn : zs.length * 8 ≤ 140737488351232)
    (hz : ∀ j, j < zs.length → -9223372036854775808 ≤ zs.getD j 0 ∧ zs.getD j 0 ≤ 9223372036854775807) :
    Calls Try.prog 15 #[.int .i64 most, .slice pa zs.length c] w fun e w' => e = .returned (.bool true) ∧ Below w.heap.size w w' := by
  obtain ⟨y, hy, hy7⟩ := and_7n most
  obtain ⟨i0, hi0, hz0, hz1, hz2⟩ := info_parts info9
  obtain ⟨n, en⟩ : ∃ n, n = zs.length := ⟨_, rfl⟩
  have HX := Lib.hid (And.intro hx (And.intro hz en))
  have hn2 : n ≤ 17592186044416 := by omega
  rw [← en]
  have y0 : ∀ w', Calls Try.prog 53 #[.int .i64 (1 + (y : Int))] w' fun e w'' => ∃ Bs Bm, e = .returned (.tuple #[.pointer (some ⟨Bs, 0, none⟩), .int .i64 0]) ∧ StoreAt w'' Bs Bm (1 + y) [] ∧ w'.heap.size ≤ Bs ∧ w'.heap.size ≤ Bm ∧ Below w'.heap.size w' w'' := fun w' => by
    have := onew_yes (1 + y) w' (by omega) (by omega)
    rwa [show ((1 + y : Nat) : Int) = 1 + (y : Int) by omega] at this
  have Y := Lib.hid y0
  clear y0 hx hz en hn
  go_enter Try.func15, Try.ntmps15
  go_wp2_with fail
  refine (awake11_any _).mono ?_
  rintro e w1 ⟨rfl, hb1⟩
  go_wp2_with fail
  refine (Y.out w1).mono ?_
  rintro e w2 ⟨Bs, Bm, rfl, hst2, hBs, hBm, hb2⟩
  have hs1 := hb1.size
  have hbw2 := hb1.trans (hb2.mono hs1)
  have hBsw : w.heap.size ≤ Bs := by omega
  have hBmw : w.heap.size ≤ Bm := by omega
  have hlBs := hst2.blk.lt
  have hlBm := hst2.map.lt
  have hs2 := hbw2.size
  clear hb1 hb2 hBs hBm hs1
  go_wp2_with (go_at_call 39; refine (num_any2 0 _).mono ?_; rintro e w' ⟨rfl, rfl⟩)
  obtain ⟨N2, eN2⟩ : ∃ N2, N2 = w2.heap.size := ⟨_, rfl⟩
  have hrow0 : w2.ownsRow N2 9 1 (.slice none 0 0) 0 [] := World.ownsRow_nil w2 N2 9 1
  go_loopw [8, 9] (fun v i wr => ∃ (j cp : Nat) (p : Option Addr) (xs : List Value), i = .int .i64 (j : Int) ∧ v = .slice p j cp ∧ j ≤ 16 ∧ wr.ownsRow N2 9 1 (.slice p j cp) j xs ∧ Hid (xs = (oAll.take j).map SV) ∧ StoreAt wr Bs Bm (1 + y) [] ∧ Below w.heap.size w wr ∧ N2 ≤ wr.heap.size) (fun _ i _ => 16 - (intOf i).toNat)
  case atStart => exact ⟨0, 0, none, [], rfl, rfl, by omega, hrow0, Lib.hid (by simp), hst2, hbw2, by omega⟩
  case round =>
    clear hbw2 hst2 hrow0
    obtain ⟨j, cp, p, xs, rfl, rfl, hj, hR, HXS, hst, hbw, hsz⟩ := hrel
    by_cases h1 : j < 16
    · obtain ⟨X, eX⟩ : ∃ X, X = oT (UInt8.ofNat j) := ⟨_, rfl⟩
      have hcv := conv_one wr j (UInt8.ofNat j) (by rw [UInt8.toNat_ofNat']; omega) _ rfl
      have hadd : ∀ w', (Op.stringOp .add ⟨#[111]⟩ ⟨#[UInt8.ofNat j]⟩).run Try.prog w' = .ok (.string X) w' := fun w' => by rw [eX]; exact add_o w' _
      have hba : Below wr.heap.size wr ((wr.alloc (.cells #[.int .u8 (j : Int)] 5)).alloc (.cells #[.string X] 9)) := ((Below.refl _ _).alloc (Nat.le_refl _) _).alloc (by simp) _
      have hR2 : ((wr.alloc (.cells #[.int .u8 (j : Int)] 5)).alloc (.cells #[.string X] 9)).ownsRow N2 9 1 (.slice p j cp) j xs := hR.kept (grown_below hba (Nat.le_refl _) none) (by cases (Value.slice p j cp).ownBlock <;> simp)
      have hsrc := src_one (Blk.new (wr.alloc (.cells #[.int .u8 (j : Int)] 5)) 9 #[.string X])
      rw [show (wr.alloc (.cells #[.int .u8 (j : Int)] 5)).heap.size = wr.heap.size + 1 by simp] at hsrc
      have hst2 := hst.below hba
      have hbw2 := hbw.trans (hba.mono hbw.size)
      have hxs2 : xs ++ [.string X] = (oAll.take (j + 1)).map SV := by
        have hjl : j < oAll.length := by rw [oAll_length]; exact h1
        rw [List.take_succ_eq_append_getElem hjl, List.map_append, ← HXS.out, List.map_singleton]
        have := oAll_getN j h1
        rw [List.getD, List.getElem?_eq_getElem hjl] at this
        rw [show oAll[j] = X by rw [eX]; exact this]
        rfl
      have hsz2 : N2 ≤ ((wr.alloc (.cells #[.int .u8 (j : Int)] 5)).alloc (.cells #[.string X] 9)).heap.size := Nat.le_trans hsz hba.size
      have HC := Lib.hid (And.intro hR2 (And.intro hsrc (And.intro hst2 (And.intro hbw2 (And.intro hxs2 hsz2)))))
      have b1 : j + 1 ≤ maxLen := by simp only [maxLen]; omega
      have b2 : (j + 1) * 16 ≤ 140737488355328 := by omega
      clear hR2 hsrc hst2 hbw2 hxs2 hsz2 hba eX hR hst hbw
      go_wp2_with (at_builtin; refine wpList_app _ N2 9 i0 (.string ⟨#[]⟩) 1 16 Try.underlying23 hi0 hz0 hz1 hz2 rfl (.slice p j cp) j xs rfl HC.out.1 _ 1 _ rfl HC.out.2.1 b1 b2 HC.out.2.2.2.2.2 ?_; intro v5 w5 hR5 hg5 _ _; obtain ⟨p5, c5, rfl⟩ := row_slice hR5; simp only [List.setIfInBounds_toArray, List.set_cons_succ, List.set_cons_zero])
      go_roundw
      case rel => exact ⟨j + 1, c5, p5, _, by go_num, rfl, by omega, hR5, Lib.hid HC.out.2.2.2.2.1, HC.out.2.2.1.grown hg5 (fun e => by have := (HC.out.1.lt Bs e.symm).1; omega) (fun e => by have := (HC.out.1.lt Bm e.symm).1; omega), HC.out.2.2.2.1.grown hg5 HC.out.2.2.2.1.size (fun g e => by have := (HC.out.1.lt g e).1; omega), Nat.le_trans HC.out.2.2.2.2.2 hg5.size⟩
      case measure => simp [intOf]; omega
    · obtain rfl : j = 16 := by omega
      have hxs := HXS.out
      rw [show (16 : Nat) = oAll.length from oAll_length.symm, List.take_length] at hxs
      subst hxs
      have hcl := clash_any p oAll cp wr (by rw [oAll_length]; decide) (strs_own hR) (fun j hj => by
        rw [oAll_length] at hj; rw [oAll_getN j hj]; show (2 : Nat) ≤ _; decide)
      rw [oAll_length] at hcl
      have CL := Lib.hid hcl
      clear hcl
      go_wp2_with fail
      refine CL.out.mono ?_
      rintro e w4 ⟨⟨cb, rfl, hap⟩, hb4⟩
      have hbw4 := hbw.trans (hb4.mono hbw.size)
      have hst4 := hst.below hb4
      have hsz4 : N2 ≤ w4.heap.size := Nat.le_trans hsz hb4.size
      clear hbw hst hb4 hsz hR
      cases cb
      case true =>
        go_wp2
        go_ret
        exact ⟨rfl, hbw4⟩
      case false =>
      have HAP := Lib.hid (hap rfl)
      clear hap CL
      go_wp2
      have hrow0 : w4.ownsRow N2 9 1 (.slice none 0 0) 0 [] := World.ownsRow_nil w4 N2 9 1
      go_loopw [10, 11, 12, 13, 14, 15, 16, 17] (fun v i s1 s2 s3 s4 s5 s6 wr => ∃ (q m cp : Nat) (p : Option Addr) (hs : List UInt8) (xs : List Value), i = .int .i64 (q : Int) ∧ v = .slice p m cp ∧ q ≤ n ∧ q ≤ 40 ∧ m ≤ q ∧ m ≤ 1 + y ∧ wr.ownsRow N2 9 1 (.slice p m cp) m xs ∧ Hid (xs = (hs.map oT).map SV) ∧ Hid (m = hs.length) ∧ Hid (∀ c ∈ hs, c.toNat < 16) ∧ StoreAt wr Bs Bm (1 + y) (kvOf hs) ∧ Below w.heap.size w wr ∧ N2 ≤ wr.heap.size) (fun _ i _ _ _ _ _ _ _ => n - (intOf i).toNat)
      case atStart => exact ⟨0, 0, 0, none, [], [], rfl, rfl, by omega, by omega, by omega, by omega, hrow0, Lib.hid rfl, Lib.hid rfl, Lib.hid (fun c hc => by cases hc), hst4, hbw4, hsz4⟩
      case round =>
        clear hbw4 hst4 hrow0 hsz4
        obtain ⟨q, m, cp, p, hs, xs, rfl, rfl, hq, hq40, hmq, hmy, hR, HXS, HM, HH, hst, hbw, hsz⟩ := hrel
        obtain ⟨kv, ekv⟩ : ∃ kv, kv = kvOf hs := ⟨_, rfl⟩
        rw [← ekv] at hst
        have HKV := Lib.hid ekv
        clear ekv
        have hstrs : Strs wr p (hs.map oT) := by
          have := hR
          rw [HXS.out] at this
          exact strs_own this
        have HSTR := Lib.hid hstrs
        clear hstrs
        by_cases h1 : q < n ∧ q < 40
        · obtain ⟨h1, h2⟩ := h1
          have hz0' := HX.out.2.1 q (by rw [← HX.out.2.2]; exact h1)
          obtain ⟨a, rfl, hblk, hcell⟩ := HX.out.1.at (j := q) (by rw [← HX.out.2.2]; exact h1)
          obtain ⟨z, ez⟩ : ∃ z, z = zs.getD q 0 := ⟨_, rfl⟩
          rw [← ez] at hz0' hcell
          clear ez
          have hcr : wr.cell? (a.add q) = some (.int .i64 z) := (hbw.cell hblk).trans hcell
          obtain ⟨b, hb15, hb16⟩ := and_15 z
          obtain ⟨bn, ebn⟩ : ∃ bn, bn = b.toNat := ⟨_, rfl⟩
          rw [← ebn] at hb15 hb16
          obtain ⟨X, eX⟩ : ∃ X, X = oT b := ⟨_, rfl⟩
          have hXs : X.size = 2 := by rw [eX]; rfl
          have hcv := conv_one wr bn b ebn _ rfl
          have hadd : ∀ w', (Op.stringOp .add ⟨#[111]⟩ ⟨#[b]⟩).run Try.prog w' = .ok (.string X) w' := fun w' => by rw [eX]; exact add_o w' _
          have hba : Below wr.heap.size wr (wr.alloc (.cells #[.int .u8 (bn : Int)] 5)) := (Below.refl _ _).alloc (Nat.le_refl _) _
          have EX := Lib.hid (And.intro eX (And.intro ebn hXs))
          have HBA := Lib.hid hba
          clear eX ebn hcell hba hXs
          go_wp2
          obtain ⟨w5, e5⟩ : ∃ w5, w5 = wr.alloc (.cells #[.int .u8 (bn : Int)] 5) := ⟨_, rfl⟩
          have hba := HBA.out
          rw [← e5] at hba ⊢
          have hR5 : w5.ownsRow N2 9 1 (.slice p m cp) m xs := hR.kept (grown_below hba (Nat.le_refl _) none) (by cases (Value.slice p m cp).ownBlock <;> simp)
          have hstr5 := HSTR.out.below hba
          have hst5 := hst.below hba
          have hbw5 := hbw.trans (hba.mono hbw.size)
          have hsz5 : N2 ≤ w5.heap.size := Nat.le_trans hsz hba.size
          have HS5 := Lib.hid hstr5
          clear e5 hba hR hst hbw hsz hcr hcv hadd hstr5 HBA HSTR
          go_loop [13, 14] (fun o j => ∃ (u : Nat) (D : Bool), o = .bool D ∧ j = .int .i64 (u : Int) ∧ u ≤ m ∧ Hid (D = decide (b ∈ hs.take u))) (fun _ j => m - (intOf j).toNat)
          case atStart => exact ⟨0, false, rfl, rfl, by omega, Lib.hid (by simp)⟩
          case round =>
            obtain ⟨u, D, rfl, rfl, hu, HD⟩ := hrel
            by_cases h3 : u < m
            · have hul : u < hs.length := by rw [← HM.out]; exact h3
              obtain ⟨a', rfl, hbl', hc'⟩ := HS5.out.at (j := u) (by rw [List.length_map]; exact hul)
              obtain ⟨r, er⟩ : ∃ r, r = (hs.map oT).getD u ByteArray.empty := ⟨_, rfl⟩
              rw [← er] at hc'
              have er2 : r = oT hs[u] := by rw [er, List.getD, List.getElem?_eq_getElem (by rw [List.length_map]; exact hul), Option.getD_some, List.getElem_map]
              have htk : (b ∈ hs.take (u + 1)) ↔ (b ∈ hs.take u ∨ r = X) := by
                rw [List.take_succ_eq_append_getElem hul, List.mem_append, List.mem_singleton, er2, EX.out.1]
                exact or_congr Iff.rfl ⟨fun h => by rw [h], fun h => (oT_inj h).symm⟩
              have HTK := Lib.hid htk
              clear htk er er2 hul
              have hway : (D = true) ∨ (D = false ∧ r = X) ∨ (D = false ∧ ¬ r.toList = X.toList ∧ (r.toList == X.toList) = false ∧ ¬ r = X) := by
                cases D
                · by_cases g : r = X
                  · exact .inr (.inl ⟨rfl, g⟩)
                  · have g2 : ¬ r.toList = X.toList := fun e => g (ba_ext2 (by rw [← Lib.toList_data, ← Lib.toList_data, e]))
                    exact .inr (.inr ⟨rfl, g2, by rw [beq_eq_false_iff_ne]; exact g2, g⟩)
                · exact .inl rfl
              rcases hway with rfl | ⟨rfl, g⟩ | ⟨rfl, g2, g3, g⟩
              case' inl => have hs2 : true = decide (b ∈ hs.take (u + 1)) := (decide_eq_true (HTK.out.2 (.inl (of_decide_eq_true HD.out.symm)))).symm
              case' inr.inl => have hs2 : true = decide (b ∈ hs.take (u + 1)) := (decide_eq_true (HTK.out.2 (.inr g))).symm
              case' inr.inl => subst g
              case' inr.inr => have hs2 : false = decide (b ∈ hs.take (u + 1)) := (decide_eq_false (fun h => (HTK.out.1 h).elim (of_decide_eq_false HD.out.symm) g)).symm
              case' inr.inr => clear g
              all_goals
                have HS2 := Lib.hid hs2
                clear hs2
                go_wp2
                go_round
                case rel => exact ⟨u + 1, _, rfl, by go_num, by omega, HS2⟩
                case measure => simp [intOf]; omega
            · obtain rfl : u = m := by omega
              have hmem : D = decide (b ∈ hs) := by rw [HD.out, HM.out, List.take_length]
              obtain ⟨OX, eOX⟩ : ∃ O, O = objH X := ⟨_, rfl⟩
              have hOXl : OX.length = 32 := by rw [eOX]; exact objH_length _
              have hway : ∃ (PH : List UInt8) (PE : Int) (PK : KV), PH.length = 32 ∧ (Calls Try.prog 56 #[.pointer (some ⟨Bs, 0, none⟩), .string X] w5 fun e w'' => e = .returned (.tuple #[.agg (bcells PH), .int .i64 PE]) ∧ StoreAt w'' Bs Bm (1 + y) PK ∧ w5.grownBy w'' (some Bm)) ∧
                  ((D = true ∧ PH = OX ∧ PE = 0 ∧ PK = kvOf hs) ∨ (D = false ∧ u < 1 + y ∧ PH = OX ∧ PE = 0 ∧ PK = kvOf (hs ++ [b])) ∨ (D = false ∧ 1 + y ≤ u ∧ PE = 1102 ∧ PK = kvOf hs)) := by
                have hp := put_any hst5 X (by rw [EX.out.2.2]; decide)
                refine ⟨_, _, _, putH_length _ _ _, hp, ?_⟩
                have hb' : b.toNat < 16 := by rw [← EX.out.2.1]; exact hb16
                rw [HKV.out, eOX, EX.out.1]
                by_cases g : b ∈ hs
                · obtain ⟨g1, g2, g3⟩ := put_old HAP.out b hb' hs HH.out (1 + y) g
                  exact .inl ⟨by rw [hmem]; exact decide_eq_true g, g1, g2, g3⟩
                · rcases Nat.lt_or_ge u (1 + y) with k | k
                  · obtain ⟨g1, g2, g3⟩ := put_new HAP.out b hb' hs HH.out (1 + y) g (by rw [← HM.out]; exact k)
                    exact .inr (.inl ⟨by rw [hmem]; exact decide_eq_false g, k, g1, g2, g3⟩)
                  · obtain ⟨g1, g2, g3⟩ := put_full HAP.out b hb' hs HH.out (1 + y) g (by rw [← HM.out]; exact k)
                    exact .inr (.inr ⟨by rw [hmem]; exact decide_eq_false g, k, g2, g3⟩)
              obtain ⟨PH, PE, PK, hPl, cP, hway⟩ := hway
              have CP := Lib.hid (And.intro cP (And.intro hPl (And.intro eOX hOXl)))
              have hne : ∀ w', (binOp .neq 29 (.agg (bcells OX)) (.agg (bcells OX))).run Try.prog w' = .ok (.bool false) w' := fun w' => by rw [neq_bytes w' OX OX hOXl hOXl]; simp
              have heq2 : ∀ w', (Op.equalIn 10000 29 (.agg (bcells OX)) (.agg (bcells OX))).run Try.prog w' = .ok true w' := fun w' => by rw [run_equal_bytes w' OX OX hOXl hOXl]; simp
              clear cP hPl eOX hOXl hmem HD
              rcases hway with ⟨rfl, rfl, rfl, ePK⟩ | ⟨rfl, hlt, rfl, rfl, ePK⟩ | ⟨rfl, hge, rfl, ePK⟩
              case' inr.inl => have hlt' : (u : Int) < 1 + (y : Int) := by omega
              case' inr.inr => have hge' : 1 + (y : Int) ≤ (u : Int) := by omega
              all_goals
                have EPK := Lib.hid ePK
                clear ePK
                go_wp2_with fail
                refine CP.out.1.mono ?_
                rintro e w6 ⟨rfl, hst6, hg6⟩
                have hbw6 : Below w.heap.size w w6 := hbw5.trans (grown_below' hg6 hBmw hbw5.size)
                have hR6 : w6.ownsRow N2 9 1 (.slice p u cp) u xs := hR5.kept hg6 (.inr (fun e => by have := (hR5.lt Bm e).1; omega))
                have hsz6 : N2 ≤ w6.heap.size := Nat.le_trans hsz5 hg6.size
                have hs6 := hbw6.size
                clear hg6 hst5 hbw5 hR5 hsz5 HS5
                have hA0 : Blk (w6.alloc (.cells z32 29)) w6.heap.size 29 z32 := Blk.new _ _ _
                have hA7 : Blk ((w6.alloc (.cells z32 29)).setRow w6.heap.size (bcells PH)) w6.heap.size 29 (bcells PH) := hA0.row _
                have hbx : Below w6.heap.size w6 ((w6.alloc (.cells z32 29)).setRow w6.heap.size (bcells PH)) := below_setRow ((Below.refl _ _).alloc (Nat.le_refl _) _) (Nat.le_refl _) _
                have hst7 := hst6.below hbx
                have hbw7 := hbw6.trans (hbx.mono hs6)
                have hR7 : ((w6.alloc (.cells z32 29)).setRow w6.heap.size (bcells PH)).ownsRow N2 9 1 (.slice p u cp) u xs := hR6.kept (grown_below hbx (Nat.le_refl _) none) (by cases (Value.slice p u cp).ownBlock <;> simp)
                have hG : ∀ g, (Value.slice p u cp).ownBlock = some g → g < w6.heap.size := fun g e => (hR6.lt g e).2
                have hsz7 : N2 ≤ ((w6.alloc (.cells z32 29)).setRow w6.heap.size (bcells PH)).heap.size := Nat.le_trans hsz6 hbx.size
                clear hbx hst6 hbw6 hR6 hsz6 hs6
                go_upto_region 25 with (refine wpList_alN (d := 15) z32 zero29 w6.heap.size rfl (wpList_st_row w6.heap.size (bcells PH) rfl rfl 29 z32 hA0 (by rw [size29, bcells_size, CP.out.2.1]) (by rw [bcells_size, CP.out.2.1]; rfl) (bcells_one _) ?_); simp only [List.setIfInBounds_toArray, List.set_cons_succ, List.set_cons_zero])
                obtain ⟨w7, e7⟩ : ∃ w7, w7 = (w6.alloc (.cells z32 29)).setRow w6.heap.size (bcells PH) := ⟨_, rfl⟩
                obtain ⟨G, eG⟩ : ∃ G, G = w6.heap.size := ⟨_, rfl⟩
                rw [← e7] at hA7 hst7 hbw7 hR7 hsz7 ⊢
                rw [← eG] at hA7 hG ⊢
                clear e7 eG hA0
              · go_upto_region 30 with (go_at_call 39; refine (num_any2 1102 _).mono ?_; rintro e w' ⟨rfl, rfl⟩)
                have c63 : ∀ x, Calls Try.prog 63 #[.pointer (some ⟨Bs, 0, none⟩)] (later w7 x) fun e w'' => e = .returned (.int .i64 (u : Int)) ∧ ∃ k, w'' = later w7 k := fun x => later_call_same ((olen_any (hst7.below (later_below w7 x))).mono fun _ _ h => ⟨by rw [h.1, EPK.out, kvOf_length, ← HM.out], h.2.symm⟩)
                have HC := Lib.hid c63
                clear c63
                refine wp_region_later (by kernel_rfl) (by kernel_rfl) ?_
                repeat (go_big_quiet_step ((go_at_call 63; exact HC.out _)))
                refine wpQuiet_nil ?_
                rintro _ ⟨x, rfl⟩
                have hR8 := hR7.kept (grown_below (later_below w7 x) (Nat.le_refl _) none) (by cases (Value.slice p u cp).ownBlock <;> simp)
                have hst8 := hst7.below (later_below w7 x)
                have hbw8 := hbw7.trans ((later_below w7 x).mono hbw7.size)
                have hsz8 := Nat.le_trans hsz7 (later_size w7 x)
                have HST := Lib.hid hst8
                clear hst8
                go_wp2
                go_roundw
                case rel => exact ⟨q + 1, u, cp, p, hs, xs, by go_num, rfl, by omega, by omega, by omega, hmy, hR8, HXS, HM, HH, by have := HST.out; rw [EPK.out] at this; exact this, hbw8, hsz8⟩
                case measure => simp [intOf]; omega
              · have hba : Below w7.heap.size w7 (w7.alloc (.cells #[.string X] 9)) := (Below.refl _ _).alloc (Nat.le_refl _) _
                have hRa : (w7.alloc (.cells #[.string X] 9)).ownsRow N2 9 1 (.slice p u cp) u xs := hR7.kept (grown_below hba (Nat.le_refl _) none) (by cases (Value.slice p u cp).ownBlock <;> simp)
                have hsrc := src_one (Blk.new w7 9 #[.string X])
                have hsta := hst7.below hba
                have hAa := hA7.alloc (.cells #[.string X] 9)
                have hbwa := hbw7.trans (hba.mono hbw7.size)
                have hsza : N2 ≤ (w7.alloc (.cells #[.string X] 9)).heap.size := Nat.le_trans hsz7 hba.size
                have b1 : u + 1 ≤ maxLen := by simp only [maxLen]; omega
                have b2 : (u + 1) * 16 ≤ 140737488355328 := by omega
                have HA := Lib.hid (And.intro hRa (And.intro hsrc (And.intro hsta (And.intro hAa (And.intro hbwa hsza)))))
                clear hba hRa hsrc hsta hAa hbwa hsza
                go_upto_region 30 with (first
                  | (go_at_call 39; refine (num_any2 0 _).mono ?_; rintro e w' ⟨rfl, rfl⟩)
                  | (at_builtin; refine wpList_app _ N2 9 i0 (.string ⟨#[]⟩) 1 16 Try.underlying23 hi0 hz0 hz1 hz2 rfl (.slice p u cp) u xs rfl HA.out.1 _ 1 _ rfl HA.out.2.1 b1 b2 HA.out.2.2.2.2.2 ?_; intro v8 w8 hR8 hg8 _ _; obtain ⟨p8, c8, rfl⟩ := row_slice hR8; simp only [List.setIfInBounds_toArray, List.set_cons_succ, List.set_cons_zero]))
                have hst8 : StoreAt w8 Bs Bm (1 + y) PK := HA.out.2.2.1.grown hg8 (fun e => by have := (HA.out.1.lt Bs e.symm).1; omega) (fun e => by have := (HA.out.1.lt Bm e.symm).1; omega)
                have hA8 : Blk w8 G 29 (bcells PH) := HA.out.2.2.2.1.grown hg8 (fun e => by have := hG G e.symm; omega)
                have hbw8 : Below w.heap.size w w8 := HA.out.2.2.2.2.1.grown hg8 HA.out.2.2.2.2.1.size (fun g e => by have := (HA.out.1.lt g e).1; omega)
                have hsz8 : N2 ≤ w8.heap.size := Nat.le_trans HA.out.2.2.2.2.2 hg8.size
                clear hg8 hst7 hbw7 hR7 hA7 hsz7
                have c58 : ∀ x, Calls Try.prog 58 #[.string X] (later w8 x) fun e w'' => e = .returned (.agg (bcells PH)) ∧ ∃ k, w'' = later w8 k := fun x => by rw [CP.out.2.2.1]; exact later_call (obj_any X _ (by rw [EX.out.2.2]; decide))
                have c63 : ∀ x, Calls Try.prog 63 #[.pointer (some ⟨Bs, 0, none⟩)] (later w8 x) fun e w'' => e = .returned (.int .i64 ((u : Int) + 1)) ∧ ∃ k, w'' = later w8 k := fun x => later_call_same ((olen_any (hst8.below (later_below w8 x))).mono fun _ _ h => ⟨by rw [h.1, EPK.out, kvOf_length, List.length_append, ← HM.out]; rfl, h.2.symm⟩)
                have HC := Lib.hid (And.intro c58 c63)
                clear c58 c63
                refine wp_region_later (by kernel_rfl) (by kernel_rfl) ?_
                repeat (first
                  | (refine wpQuiet_ld_g (d := 124) G 0 (bcells PH).toList rfl rfl (by rintro _ ⟨x, rfl⟩; exact range_of_blk (hA8.below (later_below w8 x) hA8.lt)) Try.underlying29 rfl (by rw [size29, Array.length_toList, bcells_size, CP.out.2.1]) ?_; simp only [List.setIfInBounds_toArray, List.set_cons_succ, List.set_cons_zero, Array.toArray_toList])
                  | (go_big_quiet_step ((first | (go_at_call 58; exact HC.out.1 _) | (go_at_call 63; exact HC.out.2 _)))))
                refine wpQuiet_nil ?_
                rintro _ ⟨x, rfl⟩
                have hR9 := hR8.kept (grown_below (later_below w8 x) (Nat.le_refl _) none) (by cases (Value.slice p8 (u + 1) c8).ownBlock <;> simp)
                have hst9 := hst8.below (later_below w8 x)
                have hbw9 := hbw8.trans ((later_below w8 x).mono hbw8.size)
                have hsz9 := Nat.le_trans hsz8 (later_size w8 x)
                have HST := Lib.hid hst9
                clear hst9
                go_wp2
                go_roundw
                case rel => exact ⟨q + 1, u + 1, c8, p8, hs ++ [b], _, by go_num, rfl, by omega, by omega, by omega, by omega, hR9, Lib.hid (by rw [HXS.out, List.map_append, List.map_append, EX.out.1]; rfl), Lib.hid (by rw [List.length_append, ← HM.out]; rfl), Lib.hid (fun c hc => by
                  rcases List.mem_append.1 hc with h | h
                  · exact HH.out c h
                  · rw [List.mem_singleton.1 h, ← EX.out.2.1]; exact hb16), by have := HST.out; rw [EPK.out] at this; exact this, hbw9, hsz9⟩
                case measure => simp [intOf]; omega
              · go_upto_region 30 with (go_at_call 39; refine (num_any2 0 _).mono ?_; rintro e w' ⟨rfl, rfl⟩)
                have c58 : ∀ x, Calls Try.prog 58 #[.string X] (later w7 x) fun e w'' => e = .returned (.agg (bcells PH)) ∧ ∃ k, w'' = later w7 k := fun x => by rw [CP.out.2.2.1]; exact later_call (obj_any X _ (by rw [EX.out.2.2]; decide))
                have c63 : ∀ x, Calls Try.prog 63 #[.pointer (some ⟨Bs, 0, none⟩)] (later w7 x) fun e w'' => e = .returned (.int .i64 (u : Int)) ∧ ∃ k, w'' = later w7 k := fun x => later_call_same ((olen_any (hst7.below (later_below w7 x))).mono fun _ _ h => ⟨by rw [h.1, EPK.out, kvOf_length, ← HM.out], h.2.symm⟩)
                have HC := Lib.hid (And.intro c58 c63)
                clear c58 c63
                refine wp_region_later (by kernel_rfl) (by kernel_rfl) ?_
                repeat (first
                  | (refine wpQuiet_ld_g (d := 124) G 0 (bcells PH).toList rfl rfl (by rintro _ ⟨x, rfl⟩; exact range_of_blk (hA7.below (later_below w7 x) hA7.lt)) Try.underlying29 rfl (by rw [size29, Array.length_toList, bcells_size, CP.out.2.1]) ?_; simp only [List.setIfInBounds_toArray, List.set_cons_succ, List.set_cons_zero, Array.toArray_toList])
                  | (go_big_quiet_step ((first | (go_at_call 58; exact HC.out.1 _) | (go_at_call 63; exact HC.out.2 _)))))
                refine wpQuiet_nil ?_
                rintro _ ⟨x, rfl⟩
                have hR8 := hR7.kept (grown_below (later_below w7 x) (Nat.le_refl _) none) (by cases (Value.slice p u cp).ownBlock <;> simp)
                have hst8 := hst7.below (later_below w7 x)
                have hbw8 := hbw7.trans ((later_below w7 x).mono hbw7.size)
                have hsz8 := Nat.le_trans hsz7 (later_size w7 x)
                have HST := Lib.hid hst8
                clear hst8
                go_wp2
                go_roundw
                case rel => exact ⟨q + 1, u, cp, p, hs, xs, by go_num, rfl, by omega, by omega, by omega, hmy, hR8, HXS, HM, HH, by have := HST.out; rw [EPK.out] at this; exact this, hbw8, hsz8⟩
                case measure => simp [intOf]; omega
        · have hstr := HSTR.out
          have hst' := hst
          obtain ⟨wo, ewo⟩ : ∃ wo : World, wo = wr := ⟨_, rfl⟩
          subst ewo
          have HW := Lib.hid (And.intro hst hbw)
          have hwo := hbw.size
          clear hst hst' hbw hR hstr hsz
          have hex : (¬ q < n ∧ (n : Int) ≤ (q : Int)) ∨ ((q : Int) < (n : Int) ∧ (40 : Int) ≤ (q : Int)) := by omega
          have hrefl : Below wo.heap.size wo wo := Below.refl _ _
          rcases hex with ⟨_, hx1⟩ | ⟨hx1, hx2⟩
          all_goals
            go_wp2
            go_loopw [18, 19, 20] (fun j s1 s2 wr => ∃ u : Nat, j = .int .i64 (u : Int) ∧ u ≤ m ∧ Below wo.heap.size wo wr) (fun j _ _ _ => m - (intOf j).toNat)
            case atStart => exact ⟨0, rfl, by omega, hrefl⟩
            case round =>
              obtain ⟨u, rfl, hu, hbq⟩ := hrel
              by_cases h3 : u < m
              · have hul : u < hs.length := by rw [← HM.out]; exact h3
                obtain ⟨a', rfl, hbl', hc'⟩ := HSTR.out.at (j := u) (by rw [List.length_map]; exact hul)
                obtain ⟨r, er⟩ : ∃ r, r = (hs.map oT).getD u ByteArray.empty := ⟨_, rfl⟩
                rw [← er] at hc'
                have er2 : r = oT hs[u] := by rw [er, List.getD, List.getElem?_eq_getElem (by rw [List.length_map]; exact hul), Option.getD_some, List.getElem_map]
                obtain ⟨g1, g2⟩ := get_held HAP.out hs[u] (HH.out _ (List.getElem_mem hul)) hs HH.out (List.getElem_mem hul)
                rw [← er2, ← HKV.out] at g1 g2
                obtain ⟨OR, eOR⟩ : ∃ O, O = objH r := ⟨_, rfl⟩
                have hORl : OR.length = 32 := by rw [eOR]; exact objH_length r
                rw [← eOR] at g1 g2
                have c58 : Calls Try.prog 58 #[.string r] wr fun e w'' => e = .returned (.agg (bcells OR)) ∧ Below wr.heap.size wr w'' := by
                  rw [eOR]; exact obj_any r wr (by rw [er2]; show (2 : Nat) ≤ _; decide)
                have c61 : ∀ w', Below wo.heap.size wo w' → Calls Try.prog 61 #[.pointer (some ⟨Bs, 0, none⟩), .agg (bcells OR)] w' fun e w'' => e = .returned (.tuple #[.string r, .int .i64 0]) ∧ Below w'.heap.size w' w'' := fun w' h => by
                  have := oget_any (HW.out.1.below h) OR hORl
                  rw [g1, g2] at this
                  exact this
                have hcr : wr.cell? (a'.add u) = some (.string r) := (hbq.cell hbl').trans hc'
                have HC := Lib.hid (And.intro c58 (And.intro c61 (And.intro hc' hbl')))
                clear c58 c61 hc' hbl' g1 g2 eOR hORl er er2 hul
                go_wp2_with fail
                refine HC.out.1.mono ?_
                rintro e w6 ⟨rfl, hb6⟩
                have hbq6 := hbq.trans (hb6.mono hbq.size)
                clear hb6 hbq hcr
                go_wp2_with fail
                refine (HC.out.2.1 w6 hbq6).mono ?_
                rintro e w7 ⟨rfl, hb7⟩
                have hbq7 := hbq6.trans (hb7.mono hbq6.size)
                have hcr : w7.cell? (a'.add u) = some (.string r) := (hbq7.cell HC.out.2.2.2).trans HC.out.2.2.1
                clear hb7 hbq6
                go_wp2_with (go_at_call 39; refine (num_any2 0 _).mono ?_; rintro e w' ⟨rfl, rfl⟩)
                go_roundw
                case rel => exact ⟨u + 1, by go_num, by omega, hbq7⟩
                case measure => simp [intOf]; omega
              · obtain rfl : u = m := by omega
                go_wp2
                go_ret
                exact ⟨rfl, HW.out.2.trans (hbq.mono hwo)⟩
end Go.Proofs.Ytmhbkilpllgchaa
