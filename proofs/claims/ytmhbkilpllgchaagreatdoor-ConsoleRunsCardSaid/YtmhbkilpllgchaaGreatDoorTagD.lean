/- The reference's Tag. -/
import Derived.Test.YtmhbkilpllgchaaGreatDoorTagB
import Derived.Test.YtmhbkilpllgchaaGreatDoorTwA
import Derived.Laws.BytesArg
namespace Go.Proofs.YtmhbkilpllgchaaGreatDoor
open Go.RowKit BigFrame
set_option linter.unusedVariables false
set_option linter.unusedSimpArgs false

/-- An own row of bytes as a text. -/
theorem run_str_own (w : World) (base : Nat) (p : Option Addr) (c N : Nat) (l : List UInt8) (hN : N = l.length) (h : w.ownsRow base 5 1 (.slice p N c) N (l.map B)) :
    (convert 27 9 (.slice p N c)).run Tryz.prog w = .ok (.string ⟨l.toArray⟩) w := by
  rcases h.2 with ⟨e1, e2⟩ | ⟨g, cap, cur, e1, hb, hh, h1, h2, h3, h4⟩
  · simp only [Value.slice.injEq] at e1
    obtain ⟨rfl, rfl, rfl⟩ := e1
    have : l = [] := List.length_eq_zero_iff.1 hN.symm
    subst this
    rw [run_convert_bytes_string w 27 9 5 none 0 0 Tryz.underlying27 Tryz.underlying5 Tryz.underlying9]
    rfl
  · simp only [Value.slice.injEq] at e1
    obtain ⟨rfl, -, rfl⟩ := e1
    subst hN
    refine run_convert_bytes_back w 27 9 5 ⟨g, 0, none⟩ c l Tryz.underlying27 Tryz.underlying5 Tryz.underlying9 (fun j hj => ?_)
    have := h.cells (g := g) rfl j (B l[j]) (by rw [List.getElem?_map, List.getElem?_eq_getElem hj]; rfl)
    exact this
theorem byteCells_list (l : List UInt8) : byteCells ⟨l.toArray⟩ = l.map B := by rw [byteCells_B]

/-- A block that is just these cells, as an own row. -/
theorem own_new {w : World} {g base : Nat} {e : TypeId} {xs : List Value} (hb : Blk w g e xs.toArray) (hg : base ≤ g) (n : Nat) (hn : n = xs.length) (hm : n ≤ maxLen) : w.ownsRow base e 1 (.slice (some ⟨g, 0, none⟩) n n) n xs := by
  subst hn
  exact ⟨by simp, .inr ⟨g, xs.length, xs.toArray, rfl, hg, hb, Nat.le_refl _, hm, by simp, by simp⟩⟩

set_option maxRecDepth 100000 in
set_option maxHeartbeats 2000000 in
theorem rtag_tag (t : Int) (pa : Option Addr) (n c : Nat) (w : World) (h : t < 0 ∨ 4 < t) : Calls Tryz.prog 42 #[.int .i64 t, .slice pa n c] w fun e w' => e = .returned tagNo ∧ Below w.heap.size w w' := by
  have hL : Blk (w.alloc (.cells z32 36)) w.heap.size 36 z32 := Blk.new _ _ _
  have hb : Below w.heap.size w (w.alloc (.cells z32 36)) := (Below.refl _ _).alloc (Nat.le_refl _) _
  rcases h with h | h
  all_goals
    go_enter Tryz.func42, Tryz.ntmps42
    go_wp2_with (first
      | (refine wpList_alN (d := 4) z32 zero29 w.heap.size rfl ?_; simp only [List.setIfInBounds_toArray, List.set_cons_succ, List.set_cons_zero])
      | (refine wpList_bd (d := 15) z32 (by kernel_rfl) (wpList_st_row w.heap.size z32 rfl rfl 36 z32 hL (by rw [size29]; rfl) rfl (by kernel_rfl) ?_); simp only [List.setIfInBounds_toArray, List.set_cons_succ, List.set_cons_zero]))
    refine bodyPost_ret (results_row_slot rfl _ _ w.heap.size 36 z32 (0, 0) _ rfl (hL.row _) Tryz.underlying36 rfl (by rw [size29]; rfl)) rfl ⟨rfl, below_setRow hb (Nat.le_refl _) _⟩

/-- What a tag's digest is, or that there is none. -/
def tagV (t : Nat) (ss : List ByteArray) : Value := if total ss ≤ 65536 then tagYes t ss else tagNo

set_option maxRecDepth 100000 in
set_option maxHeartbeats 4000000 in
theorem rtag_any (t : Nat) (pa : Option Addr) (ss : List ByteArray) (c : Nat) (w : World) (ht : t ≤ 4) (hn : ss.length * 16 ≤ 140737488351232) (hx : Strs w pa ss) (hz : ∀ j, j < ss.length → (ss.getD j ByteArray.empty).size ≤ 140737488351232) :
    Calls Tryz.prog 42 #[.int .i64 (t : Int), .slice pa ss.length c] w fun e w' => e = .returned (tagV t ss) ∧ Below w.heap.size w w' := by
  obtain ⟨i0, hi0, hz0, hz1, hz2⟩ := info_parts info5
  obtain ⟨L, eL⟩ : ∃ L, L = w.heap.size := ⟨_, rfl⟩
  have hL1 : Blk (w.alloc (.cells z32 36)) L 36 z32 := by rw [eL]; exact Blk.new _ _ _
  have hb1 : Below L w (w.alloc (.cells z32 36)) := (Below.refl _ _).alloc (by omega) _
  have s1 : (w.alloc (.cells z32 36)).heap.size = L + 1 := by simp [eL]
  obtain ⟨w1, e1⟩ : ∃ w1, w1 = w.alloc (.cells z32 36) := ⟨_, rfl⟩
  rw [← e1] at hL1 hb1 s1
  have hbt : B (UInt8.ofNat t) = .int .u8 (t : Int) := by
    show Value.int .u8 _ = _
    rw [UInt8.toNat_ofNat']
    congr 1
    omega
  have hR2 : (w1.alloc (.cells #[.int .u8 (t : Int)] 5)).ownsRow (L + 1) 5 1 (.slice (some ⟨L + 1, 0, none⟩) 1 1) 1 ((tagL t (ss.take 0)).map B) := by
    have hB := Blk.new w1 5 #[.int .u8 (t : Int)]
    rw [s1] at hB
    have e : (tagL t (ss.take 0)).map B = [.int .u8 (t : Int)] := by simp only [List.take_zero, tagL, List.flatMap_nil, List.map_cons, List.map_nil, hbt]
    rw [e]
    exact own_new (xs := [.int .u8 (t : Int)]) hB (Nat.le_refl _) 1 rfl (by simp [maxLen])
  have hL2 := hL1.alloc (.cells #[.int .u8 (t : Int)] 5)
  have hb2 := hb1.alloc (by omega) (.cells #[.int .u8 (t : Int)] 5)
  have hx2 : Strs (w1.alloc (.cells #[.int .u8 (t : Int)] 5)) pa ss := hx.below (by rw [← eL]; exact hb2)
  have s2 : (w1.alloc (.cells #[.int .u8 (t : Int)] 5)).heap.size = L + 2 := by simp [s1]
  have hlow : ∀ a, pa = some a → ∀ j, j < ss.length → (a.add j).block < L := fun a ha j hj => by rw [eL]; exact (hx.2 a ha j hj).1
  obtain ⟨w2, e2⟩ : ∃ w2, w2 = w1.alloc (.cells #[.int .u8 (t : Int)] 5) := ⟨_, rfl⟩
  rw [← e2] at hR2 hL2 hb2 hx2 s2
  have EL := Lib.hid (And.intro eL (And.intro e1 (And.intro s1 e2)))
  have LW := Lib.hid hb2
  have HLOW := Lib.hid hlow
  have HZ := Lib.hid hz
  have HN := Lib.hid hn
  have HV := Lib.hid (show tagV t ss = if total ss ≤ 65536 then tagYes t ss else tagNo from rfl)
  rw [← eL]
  obtain ⟨V, eV⟩ : ∃ V, V = tagV t ss := ⟨_, rfl⟩
  rw [← eV]
  have EV := Lib.hid eV
  obtain ⟨n, en⟩ : ∃ n, n = ss.length := ⟨_, rfl⟩
  have EN := Lib.hid en
  have hn2 : n ≤ 8796093022208 := by omega
  have hs2 : L + 2 ≤ w2.heap.size := by omega
  rw [← en]
  clear eL e1 s1 e2 s2 hx hlow hz hn en hbt hL1 hb1 eV
  go_enter Tryz.func42, Tryz.ntmps42
  go_wp2_with (refine wpList_alN (d := 4) z32 zero29 L EL.out.1.symm ?_; simp only [List.setIfInBounds_toArray, List.set_cons_succ, List.set_cons_zero]; rw [← EL.out.2.1])
  rw [EL.out.2.2.1, ← EL.out.2.2.2]
  obtain ⟨wo, rfl⟩ : ∃ wo : World, wo = w2 := ⟨_, rfl⟩
  go_loopw [6, 7, 8] (fun s v i wr => ∃ (k m N cp : Nat) (p : Option Addr) (xs : List Value), i = .int .i64 (k : Int) ∧ s = .int .i64 (m : Int) ∧ v = .slice p N cp ∧ k ≤ n ∧ m ≤ 65536 ∧ N ≤ 1 + 4 * k + m ∧ wr.ownsRow (L + 1) 5 1 (.slice p N cp) N xs ∧ Hid (m = total (ss.take k)) ∧ Hid (xs = (tagL t (ss.take k)).map B) ∧ Hid (N = (tagL t (ss.take k)).length) ∧ Blk wr L 36 z32 ∧ Below L w wr ∧ L + 1 ≤ wr.heap.size) (fun _ _ i _ => n - (intOf i).toNat)
  case atStart => exact ⟨0, 0, 1, 1, some ⟨L + 1, 0, none⟩, _, rfl, rfl, rfl, by omega, by omega, by omega, hR2, Lib.hid (by simp [total]), Lib.hid rfl, Lib.hid (by simp [tagL]), hL2, hb2, by omega⟩
  case round =>
    clear hR2 hL2 hb2 hs2
    obtain ⟨k, m, N, cp, p, xs, rfl, rfl, rfl, hk, hm, hN, hR, HM, HXS, HNN, hL, hb, hsz⟩ := hrel
    by_cases h1 : k < n
    · obtain ⟨a, rfl, hbl, hcx⟩ := hx2.at (j := k) (by rw [← EN.out]; exact h1)
      have hab := HLOW.out a rfl k (by rw [← EN.out]; exact h1)
      have hq := HZ.out k (by rw [← EN.out]; exact h1)
      have hts := total_take_succ ss k (by rw [← EN.out]; exact h1)
      have htl := tagL_take_succ t ss k (by rw [← EN.out]; exact h1)
      have hta := total_take_le ss (k + 1)
      rw [← HM.out] at hts
      obtain ⟨q, eq⟩ : ∃ q, q = ss.getD k ByteArray.empty := ⟨_, rfl⟩
      rw [← eq] at hcx hq hts htl
      have hcr : wr.cell? (a.add k) = some (.string q) := (hb.cell hab).trans ((LW.out.cell hab).symm.trans hcx)
      have HTS := Lib.hid (And.intro hts (And.intro htl hta))
      clear eq hts htl hta hcx
      by_cases h2 : m + q.size ≤ 65536
      · have h2' : (q.size : Int) ≤ 65536 - (m : Int) := by omega
        have hn8 : N + 4 + q.size ≤ 70368744177664 := by omega
        obtain ⟨Y4, hY4⟩ : ∃ Y4 : ByteArray, Y4 = ⟨(beL 4 q.size).toArray⟩ := ⟨_, rfl⟩
        have hY4s : Y4.size = 4 := by rw [hY4]; exact be4_size _
        have hY4c : byteCells Y4 = (beL 4 q.size).map B := by rw [hY4]; exact byteCells_list _
        have hbe := be_any q.size 4 wr (by omega) (by omega)
        rw [← hY4] at hbe
        have HY := Lib.hid (And.intro hY4 (And.intro hY4s hY4c))
        clear hq h2 hY4 hY4s hY4c
        go_wp2_with fail
        refine hbe.mono ?_
        clear hbe
        rintro e w4 ⟨rfl, hb4⟩
        have hs4 := hb4.size
        have hR4 : w4.ownsRow (L + 1) 5 1 (.slice p N cp) N xs := hR.kept (grown_below hb4 (Nat.le_refl _) none) (by cases (Value.slice p N cp).ownBlock <;> simp)
        have hL4 := hL.below hb4 hL.lt
        have hB4 := hb.trans (hb4.mono (by omega))
        have hc4 : w4.cell? (a.add k) = some (.string q) := (hb4.cell (Nat.lt_of_lt_of_le hab (by omega))).trans hcr
        have hcw : w.cell? (a.add k) = some (.string q) := (hb.cell hab).symm.trans hcr
        have HCW := Lib.hid hcw
        have hsrc4 : Src Tryz.prog 1 9 (.string Y4) 4 ((beL 4 q.size).map B) w4 := by
          have := Src.ofString w4 Tryz.underlying9 Y4
          rwa [HY.out.2.1, HY.out.2.2] at this
        have b1 : N + 4 ≤ maxLen := by simp only [maxLen]; omega
        have b2 : (N + 4) * 1 ≤ 140737488355328 := by omega
        have b3 : N + 4 + q.size ≤ maxLen := by simp only [maxLen]; omega
        have b4 : (N + 4 + q.size) * 1 ≤ 140737488355328 := by omega
        have b5 : L + 1 ≤ w4.heap.size := by omega
        clear hb4 hR hL hb hcr hcw
        go_wp2_with (at_builtin; first
          | (refine wpList_app _ (L + 1) 5 i0 (.int .u8 0) 1 1 Tryz.underlying27 hi0 hz0 hz1 hz2 rfl (.slice p N cp) N xs rfl hR4 (.string Y4) 4 _ rfl hsrc4 b1 b2 b5 ?_; intro v5 w5 hR5 hg5 _ _; obtain ⟨p5, c5, rfl⟩ := row_slice hR5; simp only [List.setIfInBounds_toArray, List.set_cons_succ, List.set_cons_zero]; have hB5 : Below L w w5 := hB4.grown hg5 (by omega) (fun g e => Nat.le_of_succ_le (hR4.lt g e).1); have hL5 : Blk w5 L 36 z32 := hL4.grown hg5 (fun e => by have := (hR4.lt L e.symm).1; omega); have hc5 : w5.cell? (a.add k) = some (.string q) := (hB5.cell hab).trans HCW.out; have b6 : L + 1 ≤ w5.heap.size := Nat.le_trans b5 hg5.size; clear hB4 hL4 hc4 hsrc4)
          | (refine wpList_app _ (L + 1) 5 i0 (.int .u8 0) 1 1 Tryz.underlying27 hi0 hz0 hz1 hz2 rfl (.slice p5 (N + 4) c5) (N + 4) _ rfl hR5 (.string q) q.size (byteCells q) rfl (Src.ofString _ Tryz.underlying9 q) b3 b4 b6 ?_; intro v6 w6 hR6 hg6 _ _; obtain ⟨p6, c6, rfl⟩ := row_slice hR6; simp only [List.setIfInBounds_toArray, List.set_cons_succ, List.set_cons_zero]))
        go_roundw
        case rel => exact ⟨k + 1, m + q.size, N + 4 + q.size, c6, p6, _, by go_num, by go_num, rfl, by omega, by omega, by omega, hR6, Lib.hid HTS.out.1.symm,
          Lib.hid (by rw [HTS.out.2.1, List.map_append, partL, List.map_append, ← HXS.out, byteCells_B, List.append_assoc]),
          Lib.hid (by rw [HTS.out.2.1, List.length_append, ← HNN.out, partL, List.length_append, beL_length]; show _ = N + (4 + q.size); omega),
          hL5.grown hg6 (fun e => by have := (hR5.lt L e.symm).1; omega), hB5.grown hg6 (by omega) (fun g e => Nat.le_of_succ_le (hR5.lt g e).1), Nat.le_trans b6 hg6.size⟩
        case measure => simp [intOf]; omega
      · have h2' : 65536 - (m : Int) < (q.size : Int) := by omega
        have HV2 : V = tagNo := by
          rw [EV.out, HV.out, if_neg]
          have := HTS.out
          omega
        have HV2 := Lib.hid HV2
        clear h2
        go_wp2_with (refine wpList_bd (d := 33) z32 (by kernel_rfl) (wpList_st_row L z32 rfl rfl 36 z32 hL (by rw [size29]; rfl) rfl (by kernel_rfl) ?_); simp only [List.setIfInBounds_toArray, List.set_cons_succ, List.set_cons_zero])
        refine bodyPost_ret (results_row_slot rfl _ _ L 36 z32 (0, 0) _ rfl (hL.row _) Tryz.underlying36 rfl (by rw [size29]; rfl)) rfl ⟨by rw [HV2.out]; rfl, below_setRow hb (Nat.le_refl _) _⟩
    · have e : k = ss.length := by rw [← EN.out]; omega
      have HV2 : V = tagYes t ss := by
        have h := HM.out
        rw [e, List.take_length] at h
        rw [EV.out, HV.out, if_pos (by omega)]
      have hxs := HXS.out
      have hnn := HNN.out
      rw [e, List.take_length] at hxs hnn
      subst hxs
      obtain ⟨l, hl⟩ : ∃ l, l = tagL t ss := ⟨_, rfl⟩
      rw [← hl] at hR hnn
      have hcv := run_str_own wr (L + 1) p cp N l hnn hR
      obtain ⟨Sv, hSv⟩ : ∃ Sv : ByteArray, Sv = ⟨l.toArray⟩ := ⟨_, rfl⟩
      have hSs : Sv.size = N := by rw [hSv, hnn]; simp [ByteArray.size]
      have hSl : Sv.data.toList = l := by rw [hSv]
      rw [← hSv] at hcv
      obtain ⟨Ls, eLs⟩ : ∃ Ls, Ls = sha l := ⟨_, rfl⟩
      have hLsl : Ls.length = 32 := by rw [eLs, sha_length]
      have hY : V = .tuple #[.agg (bcells Ls), .int .i64 0] := by rw [HV2, tagYes, eLs, hl]
      have hsha := refsha_any Sv wr (by omega)
      rw [hSl, ← eLs] at hsha
      have HLS := Lib.hid (And.intro hLsl hY)
      have HX := Lib.hid (And.intro e (And.intro HV2 (And.intro hnn (And.intro hl (And.intro hSv (And.intro hSs (And.intro hSl eLs)))))))
      clear e HV2 hnn hl hSv hSs hSl eLs hLsl hY
      have hsh := Lib.hid hsha
      clear hsha
      go_wp2_with fail
      refine hsh.out.mono ?_
      rintro e w7 ⟨rfl, hb7⟩
      have hL7 := hL.below hb7 hL.lt
      go_wp2_with (refine wpList_st_row L (bcells Ls) rfl rfl 36 z32 hL7 (by rw [size29, bcells_size, HLS.out.1]) (by rw [bcells_size, HLS.out.1]; rfl) (bcells_one _) ?_)
      refine bodyPost_ret (results_row_slot rfl _ _ L 36 _ (0, 0) _ rfl (hL7.row (bcells Ls)) Tryz.underlying36 rfl (by rw [size29, bcells_size, HLS.out.1])) rfl ⟨by rw [HLS.out.2]; rfl, below_setRow (hb.trans (hb7.mono (by omega))) (Nat.le_refl _) _⟩
end Go.Proofs.YtmhbkilpllgchaaGreatDoor
