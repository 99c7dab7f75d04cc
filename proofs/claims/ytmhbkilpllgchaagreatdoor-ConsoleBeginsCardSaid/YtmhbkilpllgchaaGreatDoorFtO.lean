/- The reference's T, row, Once. -/
import Derived.Test.YtmhbkilpllgchaaGreatDoorFtG
import Derived.Test.YtmhbkilpllgchaaGreatDoorTagE
namespace Go.Proofs.YtmhbkilpllgchaaGreatDoor
open Go.RowKit BigFrame
set_option linter.unusedVariables false
set_option linter.unusedSimpArgs false

theorem beL_one (n : Nat) : beL 1 n = [UInt8.ofNat n] := by
  simp [beL]

set_option maxRecDepth 100000 in
set_option maxHeartbeats 4000000 in
theorem t_any (L : List UInt8) (hL : L.length = 32) (w : World) : Calls Tryz.prog 72 #[.agg (bcells L)] w fun e w' => e = .returned (.string ⟨L.toArray⟩) ∧ Below w.heap.size w w' := by
  have hX0 : Blk (w.alloc (.cells (bcells L) 36)) w.heap.size 36 (bcells L) := Blk.new _ _ _
  have hcv := conv32 _ _ L hL hX0
  have hb0 : Below w.heap.size w (w.alloc (.cells (bcells L) 36)) := (Below.refl _ _).alloc (Nat.le_refl _) _
  obtain ⟨S, eS⟩ : ∃ S, S = (⟨L.toArray⟩ : ByteArray) := ⟨_, rfl⟩
  rw [← eS] at hcv ⊢
  clear eS hX0
  have HB := Lib.hid hb0
  clear hb0
  go_enter Tryz.func72, Tryz.ntmps72
  go_wp2
  go_ret
  exact ⟨rfl, HB.out⟩

set_option maxRecDepth 100000 in
set_option maxHeartbeats 4000000 in
theorem rowr_any (kd : UInt8) (p : Option Addr) (hs : List (List UInt8)) (c : Nat) (w : World) (hx : HashAt w p hs) (hl : ∀ L ∈ hs, L.length = 32) (hn : hs.length ≤ 255) :
    Calls Tryz.prog 75 #[.string ⟨#[kd]⟩, .slice p hs.length c] w fun e w' => e = .returned (.string (nodeT kd hs)) ∧ Below w.heap.size w w' := by
  obtain ⟨n, en⟩ : ∃ n, n = hs.length := ⟨_, rfl⟩
  obtain ⟨R, eR⟩ : ∃ R, R = nodeT kd hs := ⟨_, rfl⟩
  have HX := Lib.hid (And.intro hx (And.intro hl (And.intro en eR)))
  rw [← en] at hn ⊢
  rw [← eR]
  clear hx hl en eR
  have c45 := be_any n 1 w (by omega) (by omega)
  rw [beL_one] at c45
  obtain ⟨U, eU⟩ : ∃ U, U = (⟨[UInt8.ofNat n].toArray⟩ : ByteArray) := ⟨_, rfl⟩
  rw [← eU] at c45
  obtain ⟨T0, eT0⟩ : ∃ T0, (⟨#[kd]⟩ : ByteArray) ++ U = T0 := ⟨_, rfl⟩
  have hT0 : T0.data.toList = [kd, UInt8.ofNat n] := by rw [← eT0, ByteArray.data_append, eU]; rfl
  have hadd : ∀ w', (Op.stringOp .add ⟨#[kd]⟩ U).run Tryz.prog w' = .ok (.string T0) w' := fun w' => add_texts w' _ _ (by rw [eU]; show (1 + 1 : Nat) ≤ 9223372036854775807; decide) eT0
  have HT := Lib.hid (And.intro hT0 c45)
  clear hT0 eT0 eU c45
  go_enter Tryz.func75, Tryz.ntmps75
  go_wp2_with fail
  refine HT.out.2.mono ?_
  rintro e w1 ⟨rfl, hb0⟩
  go_wp2
  clear hadd
  go_loopw [5, 6] (fun t i wr => ∃ (j : Nat) (T : ByteArray), t = .string T ∧ i = .int .i64 (j : Int) ∧ j ≤ n ∧ Hid (T.data.toList = kd :: UInt8.ofNat n :: (hs.take j).flatten) ∧ T.size ≤ 2 + 32 * j ∧ Below w.heap.size w wr) (fun _ i _ => n - (intOf i).toNat)
  case atStart => exact ⟨0, T0, rfl, rfl, by omega, Lib.hid (by rw [HT.out.1]; simp), by rw [ba_list, HT.out.1]; exact Nat.le_refl _, hb0⟩
  case round =>
    clear hb0
    obtain ⟨j, T, rfl, rfl, hj, HTT, hTs, hb⟩ := hrel
    by_cases h1 : j < n
    · have hjl : j < hs.length := by rw [← HX.out.2.2.1]; exact h1
      obtain ⟨b, o, rfl, hbl, hr⟩ := HX.out.1.at HX.out.2.1 hjl
      obtain ⟨L, eL⟩ : ∃ L, L = hs[j] := ⟨_, rfl⟩
      have hLl : L.length = 32 := by rw [eL]; exact HX.out.2.1 _ (List.getElem_mem hjl)
      rw [← eL] at hr
      have hrr : wr.rangeAt b (o + j * 32) (bcells L).toList := fun i v hv => (hb.cell (p := ⟨b, _, none⟩) hbl).trans (hr i v hv)
      have c70 := t_any L hLl wr
      obtain ⟨SL, eSL⟩ : ∃ S, S = (⟨L.toArray⟩ : ByteArray) := ⟨_, rfl⟩
      have hSLs : SL.size = 32 := by rw [ba_list, eSL]; simpa using hLl
      rw [← eSL] at c70
      obtain ⟨T2, eT2⟩ : ∃ T2, T ++ SL = T2 := ⟨_, rfl⟩
      have hT2s : T2.size = T.size + 32 := by rw [← eT2, ByteArray.size_append, hSLs]
      have hadd : ∀ w', (Op.stringOp .add T SL).run Tryz.prog w' = .ok (.string T2) w' := fun w' => add_texts w' _ _ (by rw [hSLs]; omega) eT2
      have hT2l : T2.data.toList = kd :: UInt8.ofNat n :: (hs.take (j + 1)).flatten := by
        rw [← eT2, ByteArray.data_append, Array.toList_append, HTT.out, List.take_succ_eq_append_getElem hjl, List.flatten_append, ← eL, eSL]
        simp
      have HC := Lib.hid (And.intro hT2l (And.intro hLl (And.intro hrr (And.intro c70 hb))))
      have hT2b : T2.size ≤ 2 + 32 * (j + 1) := by omega
      clear hT2l hLl hrr c70 eT2 eSL eL hr hT2s hSLs hb hTs
      go_wp2_with (refine wpList_ld_mid (d := 22) b (o + j * 32) (bcells L).toList rfl HC.out.2.2.1 Tryz.underlying36 rfl (by rw [size29, Array.length_toList, bcells_size, HC.out.2.1]) ?_; simp only [List.setIfInBounds_toArray, List.set_cons_succ, List.set_cons_zero, Array.toArray_toList])
      refine HC.out.2.2.2.1.mono ?_
      rintro e w2 ⟨rfl, hb2⟩
      have HD := Lib.hid (HC.out.2.2.2.2.trans (hb2.mono HC.out.2.2.2.2.size))
      clear hb2
      go_wp2
      exact ⟨⟨j + 1, T2, rfl, by go_num, by omega, Lib.hid HC.out.1, hT2b, HD.out⟩, by simp [intOf]; omega⟩
    · obtain rfl : j = n := by omega
      have hTR : T = R := by
        apply ByteArray.ext
        apply Array.toList_inj.1
        rw [HTT.out, HX.out.2.2.2, HX.out.2.2.1, List.take_length]
        rfl
      subst hTR
      go_wp2
      go_ret
      exact ⟨rfl, hb⟩

/-- Rows of unlike types lie apart. -/
theorem rows_apart {w : World} {b1 b2 : Nat} {e1 e2 : TypeId} {s1 s2 n1 n2 : Nat} {v1 v2 : Value} {x1 x2 : List Value} (h1 : w.ownsRow b1 e1 s1 v1 n1 x1) (h2 : w.ownsRow b2 e2 s2 v2 n2 x2) (hne : e1 ≠ e2) : v1.ownBlock = none ∨ v1.ownBlock ≠ v2.ownBlock := by
  rcases h1.2 with ⟨e, _⟩ | ⟨g1, c1, cur1, e, _, hh1, _⟩
  · subst e; exact .inl rfl
  · subst e
    refine .inr fun h => ?_
    rcases h2.2 with ⟨e, _⟩ | ⟨g2, c2, cur2, e, _, hh2, _⟩
    · subst e; cases h
    · subst e
      have : g1 = g2 := by simpa [Value.ownBlock] using h
      subst this
      rw [hh1] at hh2
      injection hh2 with hh2
      injection hh2 with _ h _
      exact hne h

set_option maxRecDepth 100000 in
set_option maxHeartbeats 8000000 in
theorem once_any {w : World} {base n c : Nat} {p : Option Addr} {all : List ByteArray} (hR : w.ownsRow base 9 1 (.slice p n c) n (all.map SV)) (hn : n ≤ 1000000) (hbse : base ≤ w.heap.size) (s : ByteArray) :
    Calls Tryz.prog 74 #[.slice p n c, .string s] w fun e w' => ∃ p' m c', e = .returned (.slice p' m c') ∧ m = (onceA all s).length ∧ w'.ownsRow base 9 1 (.slice p' m c') m ((onceA all s).map SV) ∧
      w.grownBy w' (Value.slice p n c).ownBlock ∧ ((Value.slice p' m c').ownBlock = (Value.slice p n c).ownBlock ∨ ∃ g, w.heap.size ≤ g ∧ (Value.slice p' m c').ownBlock = some g) := by
  obtain ⟨i0, hi0, hz0, hz1, hz2⟩ := info_parts info9
  have hnl : n = all.length := by have := hR.1; rw [List.length_map, Nat.mul_one] at this; exact this.symm
  have HR := Lib.hid (And.intro hR hnl)
  clear hR hnl
  go_enter Tryz.func74, Tryz.ntmps74
  go_wp2
  go_loopw [5] (fun i wr => ∃ (j : Nat), i = .int .i64 (j : Int) ∧ j ≤ n ∧ Hid (s ∉ all.take j) ∧ wr = w) (fun i _ => n - (intOf i).toNat)
  case atStart => exact ⟨0, rfl, by omega, Lib.hid (by simp), rfl⟩
  case round =>
    obtain ⟨j, rfl, hj, HN, rfl⟩ := hrel
    by_cases h1 : j < n
    · have hjl : j < all.length := by rw [← HR.out.2]; exact h1
      obtain ⟨x, ex⟩ : ∃ x, x = all[j] := ⟨_, rfl⟩
      obtain ⟨g, c', e1, _, hgl, _, _⟩ := row_form HR.out.1 (by intro e; injection e with _ e _; omega)
      injection e1 with e1 _ e2
      subst e1; subst e2
      have hcell : wr.cell? ⟨g, j, none⟩ = some (.string x) := by
        have := HR.out.1.cells (g := g) rfl j (.string x) (by rw [List.getElem?_map, List.getElem?_eq_getElem hjl, ex]; rfl)
        rw [Addr.add_mid, Nat.zero_add] at this
        exact this
      by_cases hq : x = s
      · have hmem : s ∈ all := by rw [← hq, ex]; exact List.getElem_mem hjl
        have HM := Lib.hid hmem
        clear hmem ex
        subst hq
        go_wp2
        go_ret
        refine ⟨some ⟨g, 0, none⟩, n, c, rfl, ?_, ?_, ⟨rfl, rfl, rfl, Nat.le_refl _, fun _ _ _ => rfl⟩, .inl rfl⟩
        · rw [onceA, if_pos HM.out]; exact HR.out.2
        · rw [onceA, if_pos HM.out]; exact HR.out.1
      · have hq1 : ¬ x.toList = s.toList := fun e => hq (ba_ext3 (by rw [← Lib.toList_data, ← Lib.toList_data, e]))
        have hq2 : (x.toList == s.toList) = false := by rw [beq_eq_false_iff_ne]; exact hq1
        have hN2 : s ∉ all.take (j + 1) := by
          rw [List.take_succ_eq_append_getElem hjl]
          intro h
          rcases List.mem_append.1 h with h | h
          · exact HN.out h
          · rw [List.mem_singleton] at h
            exact hq (by rw [ex, h])
        have HN2 := Lib.hid hN2
        clear hN2 ex hq
        go_wp2
        exact ⟨⟨j + 1, by go_num, by omega, Lib.hid HN2.out, trivial⟩, by simp [intOf]; omega⟩
    · obtain rfl : j = n := by omega
      have hno : s ∉ all := by
        have := HN.out
        rw [HR.out.2, List.take_length] at this
        exact this
      have hon : onceA all s = all ++ [s] := by rw [onceA, if_neg hno]
      have hRa := HR.out.1.alloc (.cells #[.string s] 9)
      have hsrc := src_one (Blk.new wr 9 #[.string s])
      have hsa : base ≤ (wr.alloc (.cells #[.string s] 9)).heap.size := by simp; omega
      have b1 : j + 1 ≤ maxLen := by simp only [maxLen]; omega
      have b2 : (j + 1) * 16 ≤ 140737488355328 := by omega
      have HQ := Lib.hid (And.intro hRa (And.intro hsrc (And.intro hsa hon)))
      clear hRa hsrc hsa hon hno
      go_wp2_with (at_builtin; refine wpList_app _ base 9 i0 (.string ⟨#[]⟩) 1 16 Tryz.underlying28 hi0 hz0 hz1 hz2 rfl (.slice p j c) j (all.map SV) rfl HQ.out.1 _ 1 _ rfl HQ.out.2.1 b1 b2 HQ.out.2.2.1 ?_; intro v5 w5 hR5 hg5 hat5 _; obtain ⟨p5, c5, rfl⟩ := row_slice hR5; simp only [List.setIfInBounds_toArray, List.set_cons_succ, List.set_cons_zero])
      go_ret
      refine ⟨p5, j + 1, c5, rfl, ?_, ?_, grown_trans (grown_below ((Below.refl _ _).alloc (Nat.le_refl _) _) (Nat.le_refl _) _) hg5, ?_⟩
      · rw [HQ.out.2.2.2, List.length_append, ← HR.out.2]; rfl
      · rw [HQ.out.2.2.2, List.map_append]; exact hR5
      · rcases hat5 with h | h
        · exact .inl h
        · exact .inr ⟨_, by simp, h⟩
end Go.Proofs.YtmhbkilpllgchaaGreatDoor
