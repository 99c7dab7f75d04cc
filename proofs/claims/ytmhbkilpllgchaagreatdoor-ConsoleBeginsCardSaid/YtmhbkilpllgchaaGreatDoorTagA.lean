/- The iterator of a tag's pieces. -/
import Derived.Test.YtmhbkilpllgchaaGreatDoorTag
import Derived.Test.YtmhbkilpllgchaaGreatDoorMgShaE
import Derived.Test.YtmhbkilpllgchaaGreatDoorRow
import Derived.RangeFuncNested
import Derived.RangeFuncBound
import Derived.RangeFuncCalls
import Derived.RangeFuncLeaves
import Derived.Shelf.Abstract
import Derived.Shelf.RegionOpen
import Derived.WalkKit
import Derived.OwnWalkIn
import Derived.TacticsInMore
import Derived.LoopNIn
import Derived.LoopIn
import Derived.Outline
import Derived.Lib.Hide
namespace Go.Proofs.YtmhbkilpllgchaaGreatDoor
open Go.RowKit Go.Shelf
set_option linter.unusedVariables false
set_option linter.unusedSimpArgs false
attribute [local go_sem] Oper.semAt_some

/-- What the iterator of a tag's pieces reads: its two boxes, and the parts, all of them below h. -/
structure Reads (h B0 B1 : Nat) (t : Int) (pa : Option Addr) (ss : List ByteArray) (c : Nat) (W : World) : Prop where
  tag : W.cell? ⟨B0, 0, none⟩ = some (.int .i64 t)
  parts : W.cell? ⟨B1, 0, none⟩ = some (.slice pa ss.length c)
  none_ : pa = none → ss = []
  some_ : ∀ a, pa = some a → ∀ j, j < ss.length → (a.add j).block < h ∧ W.cell? (a.add j) = some (.string (ss.getD j ByteArray.empty))
/-- What a round keeps. -/
def KpT (h B0 B1 : Nat) (W W' : World) : Prop := Below h W W' ∧ W'.heap[B0]? = W.heap[B0]? ∧ W'.heap[B1]? = W.heap[B1]?
theorem cell_of_heap {W W' : World} {b o : Nat} (h : W'.heap[b]? = W.heap[b]?) : W'.cell? ⟨b, o, none⟩ = W.cell? ⟨b, o, none⟩ := by
  simp only [World.cell?, h]
theorem KpT.refl (h B0 B1 : Nat) (W : World) : KpT h B0 B1 W W := ⟨Below.refl _ _, rfl, rfl⟩
theorem KpT.trans {h B0 B1 : Nat} {A B C : World} (k : KpT h B0 B1 A B) (k' : KpT h B0 B1 B C) : KpT h B0 B1 A C := ⟨k.1.trans k'.1, k'.2.1.trans k.2.1, k'.2.2.trans k.2.2⟩
theorem Reads.kept {h B0 B1 : Nat} {t : Int} {pa : Option Addr} {ss : List ByteArray} {c : Nat} {W W' : World} (r : Reads h B0 B1 t pa ss c W) (k : KpT h B0 B1 W W') : Reads h B0 B1 t pa ss c W' :=
  ⟨(cell_of_heap k.2.1).trans r.tag, (cell_of_heap k.2.2).trans r.parts, r.none_, fun a ha j hj => ⟨(r.some_ a ha j hj).1, (k.1.cell (r.some_ a ha j hj).1).trans (r.some_ a ha j hj).2⟩⟩
theorem KpT.alloc {h B0 B1 : Nat} (W : World) (o : Obj) (hh : h ≤ W.heap.size) (h0 : B0 < W.heap.size) (h1 : B1 < W.heap.size) : KpT h B0 B1 W (W.alloc o) :=
  ⟨(Below.refl _ _).alloc hh _, Below.heap_alloc _ _ _ h0, Below.heap_alloc _ _ _ h1⟩

theorem be4_cells (n : Nat) (h : n ≤ 65536) : (#[.int .u8 ((n : Int) / 16777216), .int .u8 ((n : Int) / 65536), .int .u8 ((n : Int) / 256 % 256), .int .u8 ((n : Int) % 256)] : Array Value) = ((beL 4 n).map B).toArray := by
  rw [beL_4]
  simp only [List.map_cons, List.map_nil]
  have e : ∀ (a : Int) (m : Nat), a = ((m % 256 : Nat) : Int) → Value.int .u8 a = B (UInt8.ofNat m) := fun a m h => by
    show _ = Value.int .u8 _
    rw [UInt8.toNat_ofNat', h]
  rw [e _ (n / 16777216) (by omega), e _ (n / 65536) (by omega), e _ (n / 256) (by omega), e _ n (by omega)]

set_option maxRecDepth 100000 in
set_option maxHeartbeats 1000000 in
theorem pieces_any (t : Int) (pa : Option Addr) (n c : Nat) (w : World) : Calls Tryz.prog 78 #[.int .i64 t, .slice pa n c] w fun e w' =>
    e = .returned (.func (.func 94) #[] #[.pointer (some ⟨w.heap.size, 0, none⟩), .pointer (some ⟨w.heap.size + 1, 0, none⟩)]) ∧ w' = (w.alloc (.cells #[.int .i64 t] 3)).alloc (.cells #[.slice pa n c] 28) := by
  go_enter Tryz.func78, Tryz.ntmps78
  go_wp2
  go_ret
  exact ⟨rfl, rfl⟩

set_option maxRecDepth 100000 in
set_option maxHeartbeats 1000000 in
theorem pieces1_in (F : Fence) (n : Nat) (h96 : F.fn 94) (hro : F.round = none) (hn : 1 ≤ n) (l h B0 B1 : Nat) (t : Nat) (pa : Option Addr) (ss : List ByteArray) (c : Nat) (ht : t ≤ 4) (hsz : ∀ k, k < ss.length → (ss.getD k ByteArray.empty).size ≤ 65536) (hss : ss.length ≤ 9223372036854775806)
    (J Jx : List Piece → World → Prop) (W : World) (hJ : AbidesFrom W.heap.size J)
    (hY : ∀ pre x W1, J pre W1 → pre.length < 1 + 2 * ss.length → YieldAt F (n - 1) Tryz.prog l #[.string x.1] W1 fun e W' =>
      (e = .returned (.bool true) ∧ J (pre ++ [x]) W' ∧ KpT h B0 B1 W1 W') ∨ (e = .returned (.bool false) ∧ Jx (pre ++ [x]) W'))
    (hR : Reads h B0 B1 (t : Int) pa ss c W) (hh : h ≤ W.heap.size) (hb0 : B0 < W.heap.size) (hb1 : B1 < W.heap.size) (h0 : J [] W) :
    CallsIn F n Tryz.prog 94 #[.func (.yield l) #[] #[], .pointer (some ⟨B0, 0, none⟩), .pointer (some ⟨B1, 0, none⟩)] W fun e W' => (∃ v, e = .returned v) ∧
      ((∃ ys, ys = pieces t ss ∧ J ys W') ∨ (∃ pre, True ∧ Jx pre W')) := by
  refine callsIn_of_wp Tryz.func94 rfl h96 ?_ hro
  simp only [Tryz.ntmps94, List.size_toArray, List.length_cons, List.length_nil, Nat.reduceAdd, Nat.reduceSub, Array.replicate_succ, Array.replicate_zero, List.push_toArray, List.append_toArray, List.nil_append, List.cons_append]
  have hc0 := hR.tag
  have hc1 := hR.parts
  have hbt : B (UInt8.ofNat t) = .int .u8 (t : Int) := by
    show Value.int .u8 _ = _
    rw [UInt8.toNat_ofNat']
    congr 1
    omega
  have hcv1 : (convert 27 9 (.slice (some ⟨W.heap.size, 0, none⟩) 1 1)).run Tryz.prog (W.alloc (.cells #[.int .u8 (t : Int)] 5)) = .ok (.string ⟨#[UInt8.ofNat t]⟩) (W.alloc (.cells #[.int .u8 (t : Int)] 5)) := by
    have hb : Blk (W.alloc (.cells #[.int .u8 (t : Int)] 5)) W.heap.size 5 ([UInt8.ofNat t].map B).toArray := by
      simp only [List.map_cons, List.map_nil, hbt]
      exact Blk.new _ _ _
    exact run_str _ W.heap.size 1 [UInt8.ofNat t] hb
  have hJ0 : J [] (W.alloc (.cells #[.int .u8 (t : Int)] 5)) := hJ _ _ _ none h0 (World.grownBy_alloc W _ none) (fun r e => by cases e)
  have hK0 := KpT.alloc (h := h) (B0 := B0) (B1 := B1) W (.cells #[.int .u8 (t : Int)] 5) hh hb0 hb1
  obtain ⟨fn, tmps, assign, body, hy, hR1⟩ := hY [] (clip ⟨#[UInt8.ofNat t]⟩) _ hJ0 (by simp; omega)
  rw [clip_tag] at hy
  have HJ := Lib.hid hJ
  have HY := Lib.hid hY
  have HR := Lib.hid hR
  have HBT := Lib.hid hbt
  clear hJ hY hR hbt hJ0 h0
  gi_wp2
  refine hR1.mono ?_
  rintro e W3 (⟨rfl, hJ3, hk3⟩ | ⟨rfl, hx3⟩)
  · have hR3 := (HR.out.kept hK0).kept hk3
    have hc3 := hR3.parts
    have HR3 := Lib.hid hR3
    clear hR3 hcv1 hy
    gi_wp2
    gi_loopw [16] (fun i wr => ∃ k : Nat, i = .int .i64 (k : Int) ∧ k ≤ ss.length ∧ Hid (Reads h B0 B1 (t : Int) pa ss c wr) ∧ J (pieces t (ss.take k)) wr ∧ W.heap.size ≤ wr.heap.size) (fun i _ => ss.length - (intOf i).toNat)
    case atStart =>
      have := hk3.1.size
      simp only [World.size_alloc] at this
      exact ⟨0, rfl, by omega, HR3, by simpa [pieces] using hJ3, by omega⟩
    case round =>
      clear hJ3 hk3 hc3 HR3
      obtain ⟨k, rfl, hk, HRk, hJk, hWk⟩ := hrel
      by_cases hlt : k < ss.length
      · obtain ⟨a, rfl⟩ : ∃ a, pa = some a := by
          cases hpa : pa with
          | none => have := HRk.out.none_ hpa; rw [this] at hlt; cases hlt
          | some a => exact ⟨a, rfl⟩
        have hck := (HRk.out.some_ a rfl k hlt).2
        have hpz := hsz k hlt
        obtain ⟨q, eq⟩ : ∃ q, q = ss.getD k ByteArray.empty := ⟨_, rfl⟩
        rw [← eq] at hck hpz
        have EQ := Lib.hid eq
        clear eq
        have HSZ := Lib.hid hsz
        clear hsz
        have hb4 : (#[.int .u8 ((q.size : Int) / 16777216), .int .u8 ((q.size : Int) / 65536), .int .u8 ((q.size : Int) / 256 % 256), .int .u8 ((q.size : Int) % 256)] : Array Value) = ((beL 4 q.size).map B).toArray := be4_cells q.size hpz
        have hcv4 : (convert 27 9 (.slice (some ⟨wr.heap.size, 0, none⟩) 4 4)).run Tryz.prog (wr.alloc (.cells #[.int .u8 ((q.size : Int) / 16777216), .int .u8 ((q.size : Int) / 65536), .int .u8 ((q.size : Int) / 256 % 256), .int .u8 ((q.size : Int) % 256)] 5)) = .ok (.string ⟨(beL 4 q.size).toArray⟩) (wr.alloc (.cells #[.int .u8 ((q.size : Int) / 16777216), .int .u8 ((q.size : Int) / 65536), .int .u8 ((q.size : Int) / 256 % 256), .int .u8 ((q.size : Int) % 256)] 5)) := by
          rw [hb4]
          have hb := Blk.new wr 5 ((beL 4 q.size).map B).toArray
          have := run_str _ wr.heap.size 4 (beL 4 q.size) hb
          rwa [beL_length] at this
        have hJ4 : J (pieces t (ss.take k)) (wr.alloc (.cells #[.int .u8 ((q.size : Int) / 16777216), .int .u8 ((q.size : Int) / 65536), .int .u8 ((q.size : Int) / 256 % 256), .int .u8 ((q.size : Int) % 256)] 5)) := HJ.out _ _ _ none hJk (World.grownBy_alloc wr _ none) (fun r e => by cases e)
        have hK4 := KpT.alloc (h := h) (B0 := B0) (B1 := B1) wr (.cells #[.int .u8 ((q.size : Int) / 16777216), .int .u8 ((q.size : Int) / 65536), .int .u8 ((q.size : Int) / 256 % 256), .int .u8 ((q.size : Int) % 256)] 5) (by omega) (by omega) (by omega)
        have hpl : (pieces t (ss.take k)).length = 1 + 2 * k := by rw [pieces_length, List.length_take]; omega
        have hpn : pieces t (ss.take (k + 1)) = (pieces t (ss.take k) ++ [clip ⟨(beL 4 q.size).toArray⟩]) ++ [clip q] := by rw [pieces_take_succ t ss k hlt, ← EQ.out]
        have HPN := Lib.hid hpn
        obtain ⟨fn4, tmps4, assign4, body4, hy4, hR4⟩ := HY.out (pieces t (ss.take k)) (clip ⟨(beL 4 q.size).toArray⟩) _ hJ4 (by rw [hpl]; omega)
        rw [clip_be] at hy4
        obtain ⟨Y4, hY4⟩ : ∃ Y4 : ByteArray, Y4 = ⟨(beL 4 q.size).toArray⟩ := ⟨_, rfl⟩
        rw [← hY4] at hy4 hcv4
        have HY4 := Lib.hid hY4
        have HPL := Lib.hid hpl
        clear hpn hpl hb4 hJ4 hY4 hJk
        gi_wp2
        refine hR4.mono ?_
        rintro e W4 (⟨rfl, hJ5, hk5⟩ | ⟨rfl, hx5⟩)
        · have hR5 := (HRk.out.kept hK4).kept hk5
          have HR5 := Lib.hid hR5
          have hs5 := hk5.1.size
          simp only [World.size_alloc] at hs5
          obtain ⟨fn6, tmps6, assign6, body6, hy6, hR6⟩ := HY.out _ (clip q) _ hJ5 (by rw [List.length_append, HPL.out]; simp; omega)
          rw [clip_of hpz] at hy6
          rw [← HPN.out] at hR6
          clear hR5 hcv4 hy4 hR4 hJ5
          gi_wp2
          refine hR6.mono ?_
          rintro e W6 (⟨rfl, hJ7, hk7⟩ | ⟨rfl, hx7⟩)
          · have HR7 := Lib.hid (HR5.out.kept hk7)
            have hs7 := hk7.1.size
            gi_wp2
            go_roundw
            case rel => exact ⟨k + 1, by go_num, by omega, HR7, hJ7, by omega⟩
            case measure => simp [intOf]; omega
          · gi_wp2
            refine bodyPost_ret (results_none rfl _ _ _) rfl ?_
            exact ⟨⟨_, rfl⟩, .inr ⟨_, trivial, hx7⟩⟩
        · gi_wp2
          refine ⟨fun _ hh => (by cases hh), ?_⟩
          gi_wp2
          refine bodyPost_ret (results_none rfl _ _ _) rfl ?_
          exact ⟨⟨_, rfl⟩, .inr ⟨_, trivial, hx5⟩⟩
      · obtain rfl : k = ss.length := by omega
        rw [List.take_length] at hJk
        gi_wp2
        go_end0
        exact ⟨⟨_, rfl⟩, .inl ⟨_, rfl, hJk⟩⟩
  · gi_wp2
    refine bodyPost_ret (results_none rfl _ _ _) rfl ?_
    exact ⟨⟨_, rfl⟩, .inr ⟨_, trivial, hx3⟩⟩

/-- **The iterator of a tag's pieces.** -/
theorem pieces_stops (F : Fence) (n : Nat) (h96 : F.fn 94) (hro : F.round = none) (hn : 1 ≤ n) (h B0 B1 : Nat) (t : Nat) (pa : Option Addr) (ss : List ByteArray) (c : Nat) (ht : t ≤ 4) (hsz : ∀ k, k < ss.length → (ss.getD k ByteArray.empty).size ≤ 65536) (hss : ss.length ≤ 9223372036854775806)
    (w : World) (hR : Reads h B0 B1 (t : Int) pa ss c w) (hh : h ≤ w.heap.size) (hb0 : B0 < w.heap.size) (hb1 : B1 < w.heap.size) :
    SeqStopsK F n Tryz.prog 94 #[.pointer (some ⟨B0, 0, none⟩), .pointer (some ⟨B1, 0, none⟩)] (fun x : Piece => #[Value.string x.1]) (KpT h B0 B1) (fun ys => ys = pieces t ss) (fun _ => True) (1 + 2 * ss.length) w := by
  intro l J Jx W hb hJ hJx hY h0
  have hK : KpT h B0 B1 w W := ⟨hb.mono hh, hb.block _ hb0, hb.block _ hb1⟩
  have hs := hb.size
  exact pieces1_in F n h96 hro hn l h B0 B1 t pa ss c ht hsz hss J Jx W hJ hY (hR.kept hK) (by omega) (by omega) (by omega) h0
end Go.Proofs.YtmhbkilpllgchaaGreatDoor
