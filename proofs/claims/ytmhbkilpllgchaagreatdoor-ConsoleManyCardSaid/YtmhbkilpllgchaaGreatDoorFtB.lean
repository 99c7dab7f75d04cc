/- ftree.node, what Build hands to rows. -/
import Derived.Test.YtmhbkilpllgchaaGreatDoorFtP
namespace Go.Proofs.YtmhbkilpllgchaaGreatDoor
open Go.RowKit BigFrame
set_option linter.unusedVariables false
set_option linter.unusedSimpArgs false

theorem conv1 (w : World) (bn : Nat) (h : bn ≤ 255) (g : Nat) (hg : g = w.heap.size) : (convert 27 9 (.slice (some ⟨g, 0, none⟩) 1 1)).run Tryz.prog (w.alloc (.cells #[.int .u8 (bn : Int)] 5)) = .ok (.string ⟨#[UInt8.ofNat bn]⟩) (w.alloc (.cells #[.int .u8 (bn : Int)] 5)) := by
  subst hg
  have e : (UInt8.ofNat bn).toNat = bn := by rw [UInt8.toNat_ofNat']; omega
  refine run_str _ _ 1 [UInt8.ofNat bn] ?_
  have := Blk.new w 5 #[.int .u8 (bn : Int)]
  have e2 : ([UInt8.ofNat bn].map B).toArray = #[.int .u8 (bn : Int)] := by simp [e]
  rw [e2]
  exact this
theorem conv32 (w : World) (g : Nat) (L : List UInt8) (hL : L.length = 32) (h : Blk w g 36 (bcells L)) : (convert 27 9 (.slice (some ⟨g, 0, none⟩) 32 32)).run Tryz.prog w = .ok (.string ⟨L.toArray⟩) w := by
  have := run_convert_bytes_back w 27 9 5 ⟨g, 0, none⟩ 32 L Tryz.underlying27 Tryz.underlying5 Tryz.underlying9 (fun j hj => by
    rw [Addr.add_mid, Nat.zero_add, h.cell, bcells]
    simp [hj])
  rwa [hL] at this
theorem add_texts (w : World) (x y : ByteArray) (h : x.size + y.size ≤ 9223372036854775807) {z : ByteArray} (hz : x ++ y = z) : (Op.stringOp .add x y).run Tryz.prog w = .ok (.string z) w := by
  rw [run_string_add_sum w x y h, hz]
theorem ba_list (x : ByteArray) : x.size = x.data.toList.length := rfl

set_option maxRecDepth 100000 in
set_option maxHeartbeats 4000000 in
theorem node_any (kd : UInt8) (p : Option Addr) (hs : List (List UInt8)) (c : Nat) (w : World) (hx : HashAt w p hs) (hl : ∀ L ∈ hs, L.length = 32) (hn : hs.length ≤ 255) :
    Calls Tryz.prog 62 #[.string ⟨#[kd]⟩, .slice p hs.length c] w fun e w' => e = .returned (.string (nodeT kd hs)) ∧ Below w.heap.size w w' := by
  obtain ⟨n, en⟩ : ∃ n, n = hs.length := ⟨_, rfl⟩
  obtain ⟨R, eR⟩ : ∃ R, R = nodeT kd hs := ⟨_, rfl⟩
  have HX := Lib.hid (And.intro hx (And.intro hl (And.intro en eR)))
  rw [← en] at hn ⊢
  rw [← eR]
  clear hx hl en eR
  have hcv := conv1 w n hn _ rfl
  obtain ⟨T0, eT0⟩ : ∃ T0, (⟨#[kd]⟩ : ByteArray) ++ (⟨#[UInt8.ofNat n]⟩ : ByteArray) = T0 := ⟨_, rfl⟩
  have hT0 : T0.data.toList = [kd, UInt8.ofNat n] := by rw [← eT0, ByteArray.data_append]; rfl
  have hadd : ∀ w', (Op.stringOp .add ⟨#[kd]⟩ ⟨#[UInt8.ofNat n]⟩).run Tryz.prog w' = .ok (.string T0) w' := fun w' => add_texts w' _ _ (by show (1 + 1 : Nat) ≤ 9223372036854775807; decide) eT0
  have hb0 : Below w.heap.size w (w.alloc (.cells #[.int .u8 (n : Int)] 5)) := (Below.refl _ _).alloc (Nat.le_refl _) _
  have HT := Lib.hid hT0
  clear hT0 eT0
  go_enter Tryz.func62, Tryz.ntmps62
  go_wp2
  obtain ⟨w1, e1⟩ : ∃ w1, w1 = w.alloc (.cells #[.int .u8 (n : Int)] 5) := ⟨_, rfl⟩
  rw [← e1] at hb0 ⊢
  clear e1 hcv hadd
  go_loopw [5, 7, 17] (fun t s i wr => ∃ (j : Nat) (T : ByteArray), t = .string T ∧ i = .int .i64 (j : Int) ∧ j ≤ n ∧ Hid (T.data.toList = kd :: UInt8.ofNat n :: (hs.take j).flatten) ∧ T.size ≤ 2 + 32 * j ∧ Below w.heap.size w wr) (fun _ _ i _ => n - (intOf i).toNat)
  case atStart => exact ⟨0, T0, rfl, rfl, by omega, Lib.hid (by rw [HT.out]; simp), by rw [ba_list, HT.out]; exact Nat.le_refl _, hb0⟩
  case round =>
    clear hb0
    obtain ⟨j, T, rfl, rfl, hj, HTT, hTs, hb⟩ := hrel
    by_cases h1 : j < n
    · have hjl : j < hs.length := by rw [← HX.out.2.2.1]; exact h1
      obtain ⟨b, o, rfl, hbl, hr⟩ := HX.out.1.at HX.out.2.1 hjl
      obtain ⟨L, eL⟩ : ∃ L, L = hs[j] := ⟨_, rfl⟩
      have hLl : L.length = 32 := by rw [eL]; exact HX.out.2.1 _ (List.getElem_mem hjl)
      rw [← eL] at hr
      have hrr : wr.rangeAt b (o + j * 32) (bcells L).toList := fun i v hv => (hb.cell (p := ⟨b, _, none⟩) hbl).trans (hr i v hv)
      have hX0 : Blk (wr.alloc (.cells z32 36)) wr.heap.size 36 z32 := Blk.new _ _ _
      have hX1 : Blk ((wr.alloc (.cells z32 36)).setRow wr.heap.size (bcells L)) wr.heap.size 36 (bcells L) := hX0.row _
      have hcv := conv32 _ _ L hLl hX1
      have hbx : Below w.heap.size w ((wr.alloc (.cells z32 36)).setRow wr.heap.size (bcells L)) := below_setRow (hb.alloc hb.size _) hb.size _
      obtain ⟨SL, eSL⟩ : ∃ S, S = (⟨L.toArray⟩ : ByteArray) := ⟨_, rfl⟩
      have hSLs : SL.size = 32 := by rw [ba_list, eSL]; simpa using hLl
      rw [← eSL] at hcv
      obtain ⟨T2, eT2⟩ : ∃ T2, T ++ SL = T2 := ⟨_, rfl⟩
      have hT2s : T2.size = T.size + 32 := by rw [← eT2, ByteArray.size_append, hSLs]
      have hadd : ∀ w', (Op.stringOp .add T SL).run Tryz.prog w' = .ok (.string T2) w' := fun w' => add_texts w' _ _ (by rw [hSLs]; omega) eT2
      have hT2l : T2.data.toList = kd :: UInt8.ofNat n :: (hs.take (j + 1)).flatten := by
        rw [← eT2, ByteArray.data_append, Array.toList_append, HTT.out, List.take_succ_eq_append_getElem hjl, List.flatten_append, ← eL, eSL]
        simp
      have HC := Lib.hid (And.intro hT2l (And.intro hLl (And.intro hrr (And.intro hX0 hbx))))
      have hT2b : T2.size ≤ 2 + 32 * (j + 1) := by omega
      clear hT2l hLl hrr hX0 hX1 hbx eT2 eSL eL hr hT2s hSLs hb hTs
      go_wp2_with (first
        | (refine wpList_ld_mid (d := 20) b (o + j * 32) (bcells L).toList rfl HC.out.2.2.1 Tryz.underlying36 rfl (by rw [size29, Array.length_toList, bcells_size, HC.out.2.1]) ?_; simp only [List.setIfInBounds_toArray, List.set_cons_succ, List.set_cons_zero, Array.toArray_toList])
        | (refine wpList_alN (d := 7) z32 zero29 wr.heap.size rfl (wpList_st_row wr.heap.size (bcells L) rfl rfl 36 z32 HC.out.2.2.2.1 (by rw [size29, bcells_size, HC.out.2.1]) (by rw [bcells_size, HC.out.2.1]; rfl) (bcells_one _) ?_); simp only [List.setIfInBounds_toArray, List.set_cons_succ, List.set_cons_zero]))
      go_roundw
      case rel => exact ⟨j + 1, T2, rfl, by go_num, by omega, Lib.hid HC.out.1, hT2b, HC.out.2.2.2.2⟩
      case measure => simp [intOf]; omega
    · obtain rfl : j = n := by omega
      have hTR : T = R := by
        apply ByteArray.ext
        apply Array.toList_inj.1
        rw [HTT.out, HX.out.2.2.2, HX.out.2.2.1, List.take_length]
        rfl
      subst hTR
      go_wp2
      go_ret
      exact ⟨rfl, hb⟩

/- Build's first function: a block's object. -/
set_option maxRecDepth 100000 in
set_option maxHeartbeats 4000000 in
theorem blockf_any (b o c : Nat) (l : List UInt8) (w : World) (hx : w.rangeAt b o (l.map B)) (hn : l.length ≤ 140737488351232) :
    Calls Tryz.prog 58 #[.slice (some ⟨b, o, none⟩) l.length c] w fun e w' => e = .returned (.string (bT l)) ∧ w = w' := by
  have hcv := run_convert_bytes_back w 27 9 5 ⟨b, o, none⟩ c l Tryz.underlying27 Tryz.underlying5 Tryz.underlying9 (fun j hj => by
    rw [Addr.add_mid]
    exact hx j _ (by rw [List.getElem?_map, List.getElem?_eq_getElem hj]; rfl))
  obtain ⟨S, eS⟩ : ∃ S, S = (⟨l.toArray⟩ : ByteArray) := ⟨_, rfl⟩
  have hSs : S.size = l.length := by rw [ba_list, eS]
  rw [← eS] at hcv
  obtain ⟨n, en⟩ : ∃ n, n = l.length := ⟨_, rfl⟩
  rw [← en] at hcv hSs hn ⊢
  have hadd : ∀ w', (Op.stringOp .add ⟨#[66]⟩ S).run Tryz.prog w' = .ok (.string (bT l)) w' := fun w' => add_texts w' _ _ (by rw [hSs]; show (1 + n : Nat) ≤ _; omega) (by
    apply ByteArray.ext
    apply Array.toList_inj.1
    rw [ByteArray.data_append, Array.toList_append, eS, bT]
    simp)
  obtain ⟨R, eR⟩ : ∃ R, R = bT l := ⟨_, rfl⟩
  rw [← eR] at hadd ⊢
  clear eS en eR hx hSs
  go_enter Tryz.func58, Tryz.ntmps58
  go_wp2
  go_ret
  exact ⟨rfl, rfl⟩
/- Its second: an inner node. -/
set_option maxRecDepth 100000 in
set_option maxHeartbeats 4000000 in
theorem innerf_any (p : Option Addr) (hs : List (List UInt8)) (c : Nat) (w : World) (hx : HashAt w p hs) (hl : ∀ L ∈ hs, L.length = 32) (hn : hs.length ≤ 255) :
    Calls Tryz.prog 61 #[.slice p hs.length c] w fun e w' => e = .returned (.string (nodeT 73 hs)) ∧ Below w.heap.size w w' := by
  have C := Lib.hid (node_any 73 p hs c w hx hl hn)
  clear hx hl
  obtain ⟨R, eR⟩ : ∃ R, R = nodeT 73 hs := ⟨_, rfl⟩
  rw [← eR] at C ⊢
  obtain ⟨n, en⟩ : ∃ n, n = hs.length := ⟨_, rfl⟩
  rw [← en] at C hn ⊢
  clear eR en
  go_enter Tryz.func61, Tryz.ntmps61
  go_wp2_with fail
  refine C.out.mono ?_
  rintro e w1 ⟨rfl, hb⟩
  go_wp2
  go_ret
  exact ⟨rfl, hb⟩
end Go.Proofs.YtmhbkilpllgchaaGreatDoor
