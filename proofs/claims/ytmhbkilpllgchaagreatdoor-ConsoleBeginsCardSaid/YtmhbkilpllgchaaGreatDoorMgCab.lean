/- The console in plain Lean: hexadecimal digits; console.hex, the law's hex. Errors as texts: console.told, the document's Decimal. -/
import Derived.Test.YtmhbkilpllgchaaGreatDoorFtV
import Derived.Test.YtmhbkilpllgchaaGreatDoorStr
import Derived.Shelf.Unicode.PredsPay
namespace Go.Proofs.YtmhbkilpllgchaaGreatDoor
open Go.RowKit BigFrame
set_option linter.unusedVariables false
set_option linter.unusedSimpArgs false

def digitsL : List UInt8 := [48, 49, 50, 51, 52, 53, 54, 55, 56, 57, 97, 98, 99, 100, 101, 102]
abbrev digitsS : ByteArray := ⟨#[48, 49, 50, 51, 52, 53, 54, 55, 56, 57, 97, 98, 99, 100, 101, 102]⟩
def digit (n : Nat) : UInt8 := digitsL.getD n 0
def hexB (b : UInt8) : List UInt8 := [digit (b.toNat / 16), digit (b.toNat % 16)]
def hexL (L : List UInt8) : List UInt8 := L.flatMap hexB
theorem hexL_length : ∀ L : List UInt8, (hexL L).length = 2 * L.length
  | [] => rfl
  | b :: L => by
    have := hexL_length L
    rw [hexL, List.flatMap_cons, List.length_append, List.length_cons]
    rw [hexL] at this
    rw [this]
    show 2 + _ = _
    omega
theorem hexL_snoc (L : List UInt8) (b : UInt8) : hexL (L ++ [b]) = hexL L ++ [digit (b.toNat / 16), digit (b.toNat % 16)] := by
  rw [hexL, List.flatMap_append]
  rfl
theorem digit_at {n : Nat} (h : n < 16) : bt digitsS n = digit n := rfl
theorem run_index_agg (w : World) (L : List UInt8) (hL : L.length = 32) (j : Nat) (hj : j < 32) : (Instr.index 36 (.agg (bcells L)) (.int .i64 (j : Int))).run Tryz.prog w = .ok (B (L[j]'(by omega))) w := by
  have hn : 0 ≤ (j : Int) ∧ (j : Int) < ((32 : Nat) : Int) := by omega
  have hg : (bcells L)[j]? = some (B (L[j]'(by omega))) := by
    rw [bcells, List.getElem?_toArray, List.getElem?_map, List.getElem?_eq_getElem (by omega)]; rfl
  simp [Instr.index, run_underlying Tryz.underlying36, asIntOf, hn, go_sem, hg]
  intro h
  omega

theorem info5z : (Tryz.prog.info? 5).map (fun i => (i.zero, i.size, i.bytes)) = some (some (.int .u8 0), 1, 1) := by kernel_rfl
theorem buildS27 (x y : UInt8) (w : World) : (Instr.buildSlice 27 2 #[(0, B x), (1, B y)]).run Tryz.prog w = .ok (.slice (some ⟨w.heap.size, 0, none⟩) 2 2) (w.alloc (.cells #[B x, B y] 5)) := by
  obtain ⟨i0, hi0, hz0, hz1, hz2⟩ := info_parts info5z
  refine run_buildSlice w 27 5 2 _ _ i0 _ Tryz.underlying27 hi0 hz0 (by rw [hz1]; decide) (by rw [hz1]; decide) ?_
  rw [hz1]
  kernel_rfl
theorem src_two {w : World} {g : Nat} {x y : UInt8} (h : Blk w g 5 #[B x, B y]) : Src Tryz.prog 1 27 (.slice (some ⟨g, 0, none⟩) 2 2) 2 [B x, B y] w := by
  refine Src.ofSlice _ Tryz.underlying27 _ 2 2 _ rfl (fun j u hu => ?_) (fun u hu => by
    simp only [List.mem_cons, List.not_mem_nil, or_false] at hu
    rcases hu with rfl | rfl <;> rfl)
  rw [Addr.add_mid, Nat.zero_add, h.cell, ← hu]
  simp

theorem and15 (x : UInt8) : bits .and .u8 (x.toNat : Int) 15 = ((x.toNat % 16 : Nat) : Int) := by
  have h : ∀ n : Fin 256, bits .and .u8 (n.val : Int) 15 = ((n.val % 16 : Nat) : Int) := by decide +kernel
  exact h ⟨x.toNat, x.toNat_lt⟩
set_option maxRecDepth 100000 in
set_option maxHeartbeats 4000000 in
theorem hexc_any (L : List UInt8) (hL : L.length = 32) (w : World) : Calls Tryz.prog 29 #[.agg (bcells L)] w fun e w' => e = .returned (.string ⟨(hexL L).toArray⟩) ∧ Below w.heap.size w w' := by
  obtain ⟨i0, hi0, hz0, hz1, hz2⟩ := info_parts info5z
  have hX0 : Blk (w.alloc (.cells (bcells L) 36)) w.heap.size 36 (bcells L) := Blk.new _ _ _
  have hb0 : Below w.heap.size w (w.alloc (.cells (bcells L) 36)) := (Below.refl _ _).alloc (Nat.le_refl _) _
  have HL := Lib.hid hL
  clear hL
  go_enter Tryz.func29, Tryz.ntmps29
  go_wp2_with (refine wpList_ld_row (d := 6) w.heap.size (bcells L) rfl 36 hX0 Tryz.underlying36 rfl (by rw [size29, bcells_size, HL.out]) ?_; simp only [List.setIfInBounds_toArray, List.set_cons_succ, List.set_cons_zero])
  obtain ⟨w1, e1⟩ : ∃ w1, w1 = w.alloc (.cells (bcells L) 36) := ⟨_, rfl⟩
  rw [← e1] at hb0 ⊢
  clear e1 hX0
  go_loopw [3, 5, 7] (fun t3 _ t7 wr => ∃ (j n c : Nat) (p : Option Addr) (xs : List Value), t3 = .slice p n c ∧ t7 = .int .i64 (j : Int) ∧ n = 2 * j ∧ j ≤ 32 ∧ wr.ownsRow w1.heap.size 5 1 (.slice p n c) n xs ∧ Hid (xs = (hexL (L.take j)).map B) ∧ Below w1.heap.size w1 wr) (fun _ _ t7 _ => 32 - (intOf t7).toNat)
  case atStart => exact ⟨0, 0, 0, none, [], rfl, rfl, rfl, by omega, World.ownsRow_nil _ _ _ _, Lib.hid (by simp [hexL]), Below.refl _ _⟩
  case round =>
    obtain ⟨j, n, c, p, xs, rfl, rfl, hn, hj, hR, HXS, hb⟩ := hrel
    by_cases h1 : j < 32
    · have hidx := fun w' => run_index_agg w' L HL.out j h1
      obtain ⟨x, ex⟩ : ∃ x, x = L[j]'(by rw [HL.out]; exact h1) := ⟨_, rfl⟩
      rw [← ex] at hidx
      have HX := Lib.hid ex
      clear ex
      go_upto_region 5 with fail
      have hx16 : ((x.toNat : Int)) / 16 < 16 := by have := x.toNat_lt; omega
      have hx0 : 0 ≤ ((x.toNat : Int)) / 16 := by omega
      obtain ⟨lo, elo⟩ : ∃ lo, lo = x.toNat % 16 := ⟨_, rfl⟩
      have hand := and15 x
      rw [← elo] at hand
      have hlo : (lo : Int) < 16 := by omega
      have hlo0 : (0 : Int) ≤ (lo : Int) := by omega
      have hn64 : n ≤ 62 := by omega
      have HN := Lib.hid (And.intro hn elo)
      clear elo hn
      have hba : Below wr.heap.size wr (wr.drew.alloc (.cells #[B (digit (x.toNat / 16)), B (digit lo)] 5)) := (Below.refl _ _).drew.alloc (Nat.le_refl _) _
      have hRa := row_below hR hba
      have hsrc := src_two (Blk.new wr.drew 5 #[B (digit (x.toNat / 16)), B (digit lo)])
      have b1 : n + 2 ≤ maxLen := by simp only [maxLen]; omega
      have b2 : (n + 2) * 1 ≤ 140737488355328 := by omega
      have HA := Lib.hid (And.intro hRa (And.intro hsrc (hb.trans (hba.mono hb.size))))
      clear hRa hsrc hba hb hR
      refine wp_region_take (fun _ => True) [0, 1, 2, 3, 4, 5, 6] [7, 8] 9 (by kernel_rfl) (by kernel_rfl) (by intro c a d v w h; dsimp (config := { zetaDelta := true }) only [Exit.then, bodyPost] at h ⊢; cases d <;> exact h) trivial ?_
      simp only [pick, List.filterMap_cons, List.getElem?_cons_succ, List.getElem?_cons_zero, List.filterMap_nil, List.drop_succ_cons, List.drop_zero]
      repeat (apply wpTake_step; (focus (intro w' hS; clear hS; go_simp; (first | with_reducible rfl | (rw [if_pos (by omega)]; with_reducible rfl) | trace_state))); simp only [List.setIfInBounds_toArray, List.set_cons_succ, List.set_cons_zero])
      refine wpTake_nil ?_
      refine wpOp_buildS (d := 17) #[(0, B (digit (x.toNat / 16))), (1, B (digit lo))] _ rfl (by rw [List.map_toArray]; rfl) (buildS27 _ _ _) ?_
      refine ⟨trivial, ?_⟩
      refine wpOp_app (d := 18) rfl w1.heap.size 5 i0 (.int .u8 0) 1 1 Tryz.underlying27 hi0 hz0 hz1 hz2 rfl (.slice p n c) n xs rfl HA.out.1 _ 2 _ rfl HA.out.2.1 b1 b2 HA.out.2.2.size ?_
      intro p2 c2 w2 hR2 hg2 _
      refine ⟨trivial, ?_⟩
      refine wpMem_nil ?_
      simp only [List.setIfInBounds_toArray, List.set_cons_succ, List.set_cons_zero]
      have hb2 := HA.out.2.2.grown hg2 HA.out.2.2.size (fun g e => (HA.out.1.lt g e).1)
      have hxs : xs ++ [B (digit (x.toNat / 16)), B (digit lo)] = (hexL (L.take (j + 1))).map B := by
        rw [List.take_succ_eq_append_getElem (by rw [HL.out]; exact h1), ← HX.out, hexL_snoc, List.map_append, HXS.out, HN.out.2]
        rfl
      have HS := Lib.hid (And.intro hxs hb2)
      have hn2 := HN.out.1
      clear hxs hb2 hand
      go_wp2
      exact ⟨⟨j + 1, n + 2, c2, p2, _, rfl, by go_num, by omega, by omega, hR2, Lib.hid HS.out.1, HS.out.2⟩, by simp [intOf]; omega⟩
    · obtain rfl : j = 32 := by omega
      have hxs := HXS.out
      rw [List.take_of_length_le (by rw [HL.out]; exact Nat.le_refl _)] at hxs
      rw [hxs] at hR
      have hln : n = (hexL L).length := by rw [hexL_length, HL.out]; omega
      have hcv := run_str_own wr w1.heap.size p c n (hexL L) hln hR
      have HB := Lib.hid (hb0.trans (hb.mono hb0.size))
      clear hxs HXS hR hln hb hn
      go_wp2
      go_ret
      exact ⟨rfl, HB.out⟩

set_option maxRecDepth 100000 in
set_option maxHeartbeats 4000000 in
theorem hexl_any (L : List UInt8) (hL : L.length = 32) (w : World) : Calls Tryz.prog 12 #[.agg (bcells L)] w fun e w' => e = .returned (.string ⟨(hexL L).toArray⟩) ∧ Below w.heap.size w w' := by
  obtain ⟨i0, hi0, hz0, hz1, hz2⟩ := info_parts info5z
  have hX0 : Blk (w.alloc (.cells (bcells L) 36)) w.heap.size 36 (bcells L) := Blk.new _ _ _
  have hb0 : Below w.heap.size w (w.alloc (.cells (bcells L) 36)) := (Below.refl _ _).alloc (Nat.le_refl _) _
  have HL := Lib.hid hL
  clear hL
  go_enter Tryz.func12, Tryz.ntmps12
  go_wp2
  obtain ⟨w1, e1⟩ : ∃ w1, w1 = w.alloc (.cells (bcells L) 36) := ⟨_, rfl⟩
  obtain ⟨X, eX⟩ : ∃ X, X = w.heap.size := ⟨_, rfl⟩
  have hXw : X < w1.heap.size := by rw [e1, eX]; simp
  rw [← e1] at hb0 hX0 ⊢
  rw [← eX] at hX0 ⊢
  have HEX := Lib.hid eX
  clear e1 eX
  go_loopw [4, 5] (fun t3 t7 wr => ∃ (j n c : Nat) (p : Option Addr) (xs : List Value), t3 = .slice p n c ∧ t7 = .int .i64 (j : Int) ∧ n = 2 * j ∧ j ≤ 32 ∧ wr.ownsRow w1.heap.size 5 1 (.slice p n c) n xs ∧ Hid (xs = (hexL (L.take j)).map B) ∧ Below w1.heap.size w1 wr) (fun _ t7 _ => 32 - (intOf t7).toNat)
  case atStart => exact ⟨0, 0, 0, none, [], rfl, rfl, rfl, by omega, World.ownsRow_nil _ _ _ _, Lib.hid (by simp [hexL]), Below.refl _ _⟩
  case round =>
    obtain ⟨j, n, c, p, xs, rfl, rfl, hn, hj, hR, HXS, hb⟩ := hrel
    by_cases h1 : j < 32
    · obtain ⟨x, ex⟩ : ∃ x, x = L[j]'(by rw [HL.out]; exact h1) := ⟨_, rfl⟩
      have hcx : ∀ w', Blk w' X 36 (bcells L) → w'.cell? ⟨X, j, none⟩ = some (B x) := fun w' h => by
        rw [h.cell, bcells, List.getElem?_toArray, List.getElem?_map, List.getElem?_eq_getElem (by rw [HL.out]; exact h1), ex]; rfl
      have HX := Lib.hid (And.intro ex hcx)
      clear ex hcx
      obtain ⟨q, eq⟩ : ∃ q, q = x.toNat / 16 := ⟨_, rfl⟩
      obtain ⟨r, er⟩ : ∃ r, r = x.toNat % 16 := ⟨_, rfl⟩
      have hlt := x.toNat_lt
      have hwq : IntKind.u8.wrap ((x.toNat : Int) / 16) = (q : Int) := by
        simp only [IntKind.wrap, IntKind.bits, IntKind.signed]; simp; omega
      have hwr : IntKind.u8.wrap ((x.toNat : Int) % 16) = (r : Int) := by
        simp only [IntKind.wrap, IntKind.bits, IntKind.signed]; simp; omega
      have hmr : (x.toNat : Int) % 16 = (r : Int) := by omega
      have htr : (x.toNat : Int).tmod 16 = (r : Int) := by rw [Int.tmod_eq_emod_of_nonneg (by omega)]; exact hmr
      have hq16 : (q : Int) < 16 := by omega
      have hr16 : (r : Int) < 16 := by omega
      have hq0 : (0 : Int) ≤ (q : Int) := by omega
      have hr0 : (0 : Int) ≤ (r : Int) := by omega
      have HQR := Lib.hid (And.intro eq er)
      clear eq er hlt
      have hXr : Blk wr X 36 (bcells L) := hX0.below hb hXw
      have hba : Below wr.heap.size wr (wr.drew.alloc (.cells #[B (digit q), B (digit r)] 5)) := (Below.refl _ _).drew.alloc (Nat.le_refl _) _
      have hRa := row_below hR hba
      have hsrc := src_two (Blk.new wr.drew 5 #[B (digit q), B (digit r)])
      have hXa := hXr.below hba hXr.lt
      have hn64 : n ≤ 62 := by omega
      have b1 : n + 2 ≤ maxLen := by simp only [maxLen]; omega
      have b2 : (n + 2) * 1 ≤ 140737488355328 := by omega
      have HA := Lib.hid (And.intro hRa (And.intro hsrc (And.intro (hb.trans (hba.mono hb.size)) (And.intro hXa (And.intro hXr hn)))))
      clear hRa hsrc hba hb hR hXa hXr hn
      go_upto_region 6 with fail
      refine wp_region_take (fun w' => Blk w' X 36 (bcells L)) [0, 1, 2, 3, 4, 5, 6, 7, 8, 9, 10, 11, 12] [13, 14] 15 (by kernel_rfl) (by kernel_rfl) (by intro c a d v w h; dsimp (config := { zetaDelta := true }) only [Exit.then, bodyPost] at h ⊢; cases d <;> exact h) HA.out.2.2.2.2.1.drew ?_
      simp only [pick, List.filterMap_cons, List.getElem?_cons_succ, List.getElem?_cons_zero, List.filterMap_nil, List.drop_succ_cons, List.drop_zero]
      repeat (apply wpTake_step; (focus (intro w' hS; have hc := HX.out.2 w' hS; clear hS; go_simp; (first | with_reducible rfl | skip))); simp only [List.setIfInBounds_toArray, List.set_cons_succ, List.set_cons_zero])
      refine wpTake_nil ?_
      refine wpOp_buildS (d := 23) #[(0, B (digit q)), (1, B (digit r))] _ rfl (by rw [List.map_toArray]; rfl) (buildS27 _ _ _) ?_
      refine ⟨HA.out.2.2.2.1, ?_⟩
      refine wpOp_app (d := 24) rfl w1.heap.size 5 i0 (.int .u8 0) 1 1 Tryz.underlying27 hi0 hz0 hz1 hz2 rfl (.slice p n c) n xs rfl HA.out.1 _ 2 _ rfl HA.out.2.1 b1 b2 HA.out.2.2.1.size ?_
      intro p2 c2 w2 hR2 hg2 _
      refine ⟨HA.out.2.2.2.1.grown hg2 (fun e => by have := (HA.out.1.lt X e.symm).1; omega), ?_⟩
      refine wpMem_nil ?_
      simp only [List.setIfInBounds_toArray, List.set_cons_succ, List.set_cons_zero]
      have hb2 := HA.out.2.2.1.grown hg2 HA.out.2.2.1.size (fun g e => (HA.out.1.lt g e).1)
      have hxs : xs ++ [B (digit q), B (digit r)] = (hexL (L.take (j + 1))).map B := by
        rw [List.take_succ_eq_append_getElem (by rw [HL.out]; exact h1), ← HX.out.1, hexL_snoc, List.map_append, HXS.out, ← HQR.out.1, ← HQR.out.2]
        rfl
      have HS := Lib.hid (And.intro hxs (And.intro hb2 HA.out.2.2.2.2.2))
      clear hxs hb2
      go_wp2
      have hn2 := HS.out.2.2
      exact ⟨⟨j + 1, n + 2, c2, p2, _, rfl, by go_num, by omega, by omega, hR2, Lib.hid HS.out.1, HS.out.2.1⟩, by simp [intOf]; omega⟩
    · obtain rfl : j = 32 := by omega
      have hxs := HXS.out
      rw [List.take_of_length_le (by rw [HL.out]; exact Nat.le_refl _)] at hxs
      rw [hxs] at hR
      have hln : n = (hexL L).length := by rw [hexL_length, HL.out]; omega
      have hcv := run_str_own wr w1.heap.size p c n (hexL L) hln hR
      have HB := Lib.hid (hb0.trans (hb.mono hb0.size))
      clear hxs HXS hR hln hb hn
      go_wp2
      go_ret
      exact ⟨rfl, HB.out⟩
end Go.Proofs.YtmhbkilpllgchaaGreatDoor
namespace Go.Proofs.YtmhbkilpllgchaaGreatDoor
open Go.RowKit BigFrame
set_option linter.unusedVariables false
set_option linter.unusedSimpArgs false

/-- What a call finds of the library's variables. -/
structure Laid (w : World) : Prop where
  tab : Lib.TabIs Tryz.prog w "internal/strconv.uint64pow10" .u64 Lib.pow10Tab
  max : ∃ m, w.cell? ⟨0, 0, none⟩ = some (.int .i64 m)
theorem gTab : Tryz.prog.globalNamed "internal/strconv.uint64pow10" = some 3 := by kernel_rfl
theorem lt_of_cell {w : World} {b o : Nat} {v : Value} (h : w.cell? ⟨b, o, none⟩ = some v) : b < w.heap.size := World.block_lt_of_cell? w _ h
theorem Laid.below {w w' : World} (h : Laid w) (hb : Below w.heap.size w w') : Laid w' := by
  obtain ⟨m, hm⟩ := h.max
  exact ⟨Go.Proofs.TabIs_below gTab h.tab hb, m, (hb.cell (p := ⟨0, 0, none⟩) (lt_of_cell hm)).trans hm⟩
theorem below_grow {w : World} (k : Nat) (os : Array Obj) : Below w.heap.size w (Go.Sort.grow (w.drewN k) os) := by
  refine ⟨rfl, rfl, rfl, by simp [Go.Sort.grow, World.drewN], fun i hi => ?_⟩
  show ((w.drewN k).heap ++ os)[i]? = _
  rw [Array.getElem?_append_left (by exact hi)]
  rfl

def errT (e : Int) : List UInt8 := [101, 114, 114, 111, 114, 32] ++ Lib.itoa e
theorem add_S {x y : ByteArray} {l m : List UInt8} (hx : x.data.toList = l) (hy : y.data.toList = m) : x ++ y = ⟨(l ++ m).toArray⟩ := by
  apply ba_ext3
  rw [ByteArray.data_append, Array.toList_append, hx, hy]
def toldL (e : Int) (s : List UInt8) : List UInt8 := if e = 0 then s else errT e

set_option maxRecDepth 100000 in
set_option maxHeartbeats 4000000 in
theorem toldc_any (e : Int) (s : List UInt8) (w : World) (hL : Laid w) (h1 : -9223372036854775808 ≤ e) (h2 : e ≤ 9223372036854775807) : Calls Tryz.prog 18 #[.int .i64 e, .string ⟨s.toArray⟩] w fun r w' => r = .returned (.string ⟨(toldL e s).toArray⟩) ∧ Below w.heap.size w w' := by
  have c40 := t_strconv_Itoa e h1 h2 w hL.tab
  obtain ⟨I, eI⟩ : ∃ I : ByteArray, I = ⟨(Lib.itoa e).toArray⟩ := ⟨_, rfl⟩
  obtain ⟨R, eR⟩ : ∃ R : ByteArray, R = ⟨(toldL e s).toArray⟩ := ⟨_, rfl⟩
  obtain ⟨S, eS⟩ : ∃ S : ByteArray, S = ⟨s.toArray⟩ := ⟨_, rfl⟩
  rw [← eI] at c40
  rw [← eR, ← eS]
  by_cases h : e = 0
  · have hR : R = S := by rw [eR, eS, toldL, if_pos h]
    rw [hR]
    clear c40 eI eR eS hR
    subst h
    go_enter Tryz.func18, Tryz.ntmps18
    go_wp2
    go_ret
    exact ⟨rfl, Below.refl _ _⟩
  · have hIl : (Lib.itoa e).length ≤ 1000 := by
      have h5 : ∀ u : Nat, u < 18446744073709551616 → (Lib.decDigits u).length ≤ 999 := fun u hu => by
        rw [Lib.decDigits_length]
        have : ∀ (f u : Nat), u < 10 ^ f → Lib.nDigits u ≤ f + 1 := fun f => by
          induction f with
          | zero => intro u hu; rw [Lib.nDigits_small (by omega)]; omega
          | succ f ih =>
            intro u hu
            by_cases g : u < 10
            · rw [Lib.nDigits_small g]; omega
            · rw [Lib.nDigits, dif_neg g]
              have := ih (u / 10) (by rw [Nat.pow_succ] at hu; omega)
              omega
        have := this 20 u (by omega)
        omega
      unfold Lib.itoa
      split
      · rw [List.length_cons]
        have := h5 e.natAbs (by omega)
        omega
      · have := h5 e.toNat (by omega)
        omega
    have hadd : ∀ w', (Op.stringOp .add ⟨#[101, 114, 114, 111, 114, 32]⟩ I).run Tryz.prog w' = .ok (.string R) w' := fun w' => add_texts w' _ _ (by rw [eI]; show (6 + (Lib.itoa e).length : Nat) ≤ _; omega) (by rw [eR, toldL, if_neg h, errT]; exact add_S rfl (by rw [eI]))
    have hC := Lib.hid c40
    clear c40 eI eR eS hIl
    go_enter Tryz.func18, Tryz.ntmps18
    go_wp2_with fail
    refine hC.out.mono ?_
    rintro r w1 ⟨rfl, k, os, ew⟩
    have hb : Below w.heap.size w w1 := by rw [ew]; exact below_grow k os
    clear ew
    go_wp2
    go_ret
    exact ⟨rfl, hb⟩

def noneOf : Value → Nat
  | .slice _ n _ => if n = 0 then 1 else 0
  | _ => 0
theorem noneOf_slice (p : Option Addr) (n c : Nat) : noneOf (.slice p n c) = if n = 0 then 1 else 0 := rfl
theorem dec_step (u : Nat) : Lib.decDigits u = (if u / 10 = 0 then [] else Lib.decDigits (u / 10)) ++ [UInt8.ofNat (48 + u % 10)] := by
  rw [Lib.decDigits]
  by_cases h : u < 10
  · rw [dif_pos h, if_pos (by omega), show u % 10 = u by omega]
    rfl
  · rw [dif_neg h, if_neg (by omega)]

set_option maxRecDepth 100000 in
set_option maxHeartbeats 4000000 in
theorem decimal_any (x : Nat) (hx : x ≤ 100000) (hxp : 0 < x) (w : World) : Calls Tryz.prog 47 #[.int .i64 (x : Int)] w fun r w' => r = .returned (.string ⟨(Lib.itoa (x : Int)).toArray⟩) ∧ Below w.heap.size w w' := by
  obtain ⟨i0, hi0, hz0, hz1, hz2⟩ := info_parts info5z
  have hI : Lib.itoa (x : Int) = Lib.decDigits x := by unfold Lib.itoa; rw [if_neg (by omega)]; simp
  obtain ⟨R, eR⟩ : ∃ R, R = Lib.decDigits x := ⟨_, rfl⟩
  rw [hI, ← eR]
  have HI := Lib.hid eR
  have hx0 : ¬ (x : Int) < 0 := by omega
  have hwx : IntKind.u64.wrap (x : Int) = (x : Int) := by rw [IntKind.wrap_u64]; omega
  clear hI eR
  go_enter Tryz.func47, Tryz.ntmps47
  go_wp2
  try rw [hwx]
  go_loopw [3, 4] (fun t3 t4 wr => ∃ (u n c : Nat) (p : Option Addr) (l : List UInt8), t3 = .int .u64 (u : Int) ∧ t4 = .slice p n c ∧ wr.ownsRow w.heap.size 5 1 (.slice p n c) n (l.map B) ∧ Hid (n = 0 → u = x ∧ l = []) ∧ Hid (0 < n → R = (if u = 0 then [] else Lib.decDigits u) ++ l) ∧ n + u ≤ x + 1 ∧ u ≤ x ∧ Below w.heap.size w wr)
    (fun t3 t4 _ => (intOf t3).toNat + noneOf t4)
  case atStart => exact ⟨x, 0, 0, none, [], rfl, rfl, World.ownsRow_nil _ _ _ _, Lib.hid (fun _ => ⟨rfl, rfl⟩), Lib.hid (fun h => by omega), by omega, by omega, Below.refl _ _⟩
  case round =>
    obtain ⟨u, n, c, p, l, rfl, rfl, hR, HZ, HP, hnu, hux, hb⟩ := hrel
    obtain ⟨d, ed⟩ : ∃ d, d = u % 10 := ⟨_, rfl⟩
    obtain ⟨v, ev⟩ : ∃ v, v = u / 10 := ⟨_, rfl⟩
    have hd1 : (u : Int).tmod 10 = (d : Int) := by rw [Int.tmod_eq_emod_of_nonneg (by omega)]; omega
    have hd2 : (u : Int) % 10 = (d : Int) := by omega
    have hd3 : (u : Int) / 10 = (v : Int) := by omega
    have hd4 : (u : Int).tdiv 10 = (v : Int) := by rw [Int.tdiv_eq_ediv_of_nonneg (by omega)]; omega
    have hd10 : d < 10 := by omega
    have hBd : B (UInt8.ofNat (48 + d)) = .int .u8 (48 + (d : Int)) := by
      show Value.int .u8 _ = _
      rw [UInt8.toNat_ofNat']
      congr 1
      omega
    have hba : Below wr.heap.size wr (wr.alloc (.cells #[.int .u8 (48 + (d : Int))] 5)) := (Below.refl _ _).alloc (Nat.le_refl _) _
    have hRa := row_below hR hba
    have hown := own_new (Blk.new wr 5 #[.int .u8 (48 + (d : Int))]) (Nat.le_refl _) 1 rfl (by decide)
    have hsrc := src_own Tryz.underlying27 hRa (map_B_one l)
    have b1 : 1 + n ≤ maxLen := by simp only [maxLen]; omega
    have b2 : (1 + n) * 1 ≤ 140737488355328 := by omega
    have hstep := dec_step u
    rw [← ed, ← ev] at hstep
    have HA := Lib.hid (And.intro hown (And.intro hsrc (And.intro (hb.trans (hba.mono hb.size)) (And.intro hstep (And.intro hBd hba.size)))))
    have HE := Lib.hid (And.intro ed ev)
    have hv1 : v ≤ u := by omega
    have hv2 : 0 < u → v < u := by omega
    have hR0 := hR
    have hws := hb.size
    have HB := Lib.hid hb
    clear hba hRa hown hsrc hstep hBd hb hR ed ev
    by_cases hu : 0 < u
    · have hui : (0 : Int) < (u : Int) := by omega
      go_wp2_with (at_builtin; refine wpList_app (d := 27) _ wr.heap.size 5 i0 (.int .u8 0) 1 1 Tryz.underlying27 hi0 hz0 hz1 hz2 rfl (.slice (some ⟨wr.heap.size, 0, none⟩) 1 1) 1 _ rfl HA.out.1 _ n _ rfl HA.out.2.1 b1 b2 HA.out.2.2.2.2.2 ?_; intro v8 w8 hR8 hg8 _ _; obtain ⟨p8, c8, rfl⟩ := row_slice hR8; simp only [List.setIfInBounds_toArray, List.set_cons_succ, List.set_cons_zero])
      have hb8 := HA.out.2.2.1.grown hg8 (Nat.le_trans hws HA.out.2.2.2.2.2) (fun g e => by have := (HA.out.1.lt g e).1; omega)
      refine ⟨⟨v, 1 + n, c8, p8, UInt8.ofNat (48 + d) :: l, rfl, rfl, ?_, Lib.hid (fun h => by omega), Lib.hid (fun _ => ?_), by omega, by omega, hb8⟩, ?_⟩
      · rw [List.map_cons, HA.out.2.2.2.2.1]
        exact row_mono hR8 hws
      · have hs := HA.out.2.2.2.1
        by_cases hn : n = 0
        · obtain ⟨h1, h2⟩ := HZ.out hn
          rw [HI.out, ← h1, hs, h2]
        · have h3 := HP.out (by omega)
          rw [if_neg (by omega), hs] at h3
          rw [h3, List.append_assoc]
          rfl
      · rw [noneOf_slice, noneOf_slice, if_neg (by omega)]
        have := hv2 hu
        simp [intOf]
        split <;> omega
    · obtain rfl : u = 0 := by omega
      have hn : ¬ n = 0 := fun h => by have := (HZ.out h).1; omega
      have hni : ¬ (n : Int) = 0 := by omega
      have hR9 := HP.out (by omega)
      rw [if_pos rfl, List.nil_append] at hR9
      have hln : n = l.length := by have := hR0.1; rw [List.length_map, Nat.mul_one] at this; exact this.symm
      have hcv := run_str_own wr w.heap.size p c n l hln hR0
      have HRL := Lib.hid hR9
      clear hR9 hln hd1 hd2 hd3 hd4 hR0
      go_wp2
      go_ret
      have hRl := HRL.out
      subst hRl
      exact ⟨rfl, HB.out⟩
end Go.Proofs.YtmhbkilpllgchaaGreatDoor
