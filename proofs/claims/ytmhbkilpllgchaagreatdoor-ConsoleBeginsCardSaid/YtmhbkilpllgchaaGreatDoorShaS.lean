/- New, Len, Sum of the digest. -/
import Derived.Test.YtmhbkilpllgchaaGreatDoorShaW
import Derived.Deep.RegionHeld3
namespace Go.Proofs.YtmhbkilpllgchaaGreatDoor
open Go.RowKit BigFrame

/-- An array out of the middle of a block, in a quiet head. -/
theorem wpQuiet_ld_mid {P : Program} {ops : Array Oper} {C : World → Prop} {Q : Act → Prop} {a : Act} {rest : List Oper} {ty : TypeId} {x : Operand} {d : Nat} {ot : TypeId} {pos : String} {after : Array Edge} (g o : Nat) (cs : List Value)
    (hx : a.eval x = .pointer (some ⟨g, o, none⟩)) (hw : ∀ w, C w → w.rangeAt g o cs) {ds : TypeDesc} (hu : P.underlying ty = some ds) (hd : ds.isRow = true) (hi : (P.info? ty).map (·.size) = some cs.length)
    (h : wpQuiet P ops C Q rest ⟨a.tmps.setIfInBounds d (.agg cs.toArray), a.defers⟩) : wpQuiet P ops C Q (⟨some d, .load ty x, ot, pos, after, none⟩ :: rest) a := by
  refine wpQuiet_step fun K hK => ?_
  rw [if_pos (by simp [Region.wanted])]
  refine ⟨.agg cs.toArray, fun w hC => ?_, hK _ h⟩
  unfold Oper.quietAt execOp
  simp only [hx, Instr.loadAt, Instr.sureAddr, Sem.run_bind, Sem.run_pure, Result.andThen_ok, run_loadVar_mid w g o ty cs ds (hw w hC) hu hd hi]
  exact ⟨rfl, rfl⟩

/-- The append of whatever source onto an own row, at a step of a region that draws its order. -/
theorem step_app {P : Program} {ops : Array Oper} {o : Oper} {a : Act} {w : World} {K : Act → World → Prop} {Q : Exit → Act → World → Prop} {E : Prop} (hgd : o.guard = none) (s x : Operand) (t tx : TypeId)
    (ho : o.op = .call { callee := .builtin .append, args := #[s, x], argTypes := #[t, tx] })
    (base e : TypeId) (i : TypeInfo) (z : Value) (size bytes : Nat) (ht : P.underlying t = some (.slice e)) (hi : P.info? e = some i) (hz : i.zero = some z)
    (hsize : i.size = size) (hby : i.bytes = bytes) (hzs : z.cells.size = size)
    (v : Value) (n : Nat) (xs : List Value) (hs : a.eval s = v) (hown : w.ownsRow base e size v n xs)
    (xv : Value) (m : Nat) (news : List Value) (hx : a.eval x = xv) (hsrc : Src P size tx xv m news w)
    (h63 : n + m ≤ maxLen) (hbytes : (n + m) * bytes ≤ 140737488355328) (hbase : base ≤ w.heap.size)
    (h : ∀ p c w', w'.ownsRow base e size (.slice p (n + m) c) (n + m) (xs ++ news) → w.grownBy w' v.ownBlock → ((Value.slice p (n + m) c).ownBlock = v.ownBlock ∨ (Value.slice p (n + m) c).ownBlock = some w.heap.size) → (Value.slice p (n + m) c = .slice none 0 0 ↔ v = .slice none 0 0 ∧ m = 0) → K (a.put o.dst (.slice p (n + m) c)) w') :
    if Region.wanted o (yielded ops a.tmps) = true then Oper.wp P o a w K Q else E := by
  have hw : Region.wanted o (yielded ops a.tmps) = true := by simp [Region.wanted, hgd]
  rw [if_pos hw]
  obtain ⟨v', w', hr, h2, h3, h4, h5⟩ := run_append_src_own (P := P) w base t tx o.type e i z size bytes ht hi hz hsize hby hzs v n xs hown xv m news hsrc h63 hbytes hbase
  obtain ⟨p, c, rfl⟩ := row_slice h2
  unfold Oper.wp execOp
  simp only [ho, resolve, invoke, builtin, Sem.run_bind, Sem.run_pure, Result.andThen_ok, List.map_toArray, List.map_cons, List.map_nil, hs, hx, hr]
  exact h p c w' h2 h3 h4 h5

/-- A whole own row as the source of an append. -/
theorem src_own {P : Program} {w : World} {base : Nat} {e tx e' : TypeId} {v : Value} {n : Nat} {xs : List Value} (hk : P.underlying tx = some (.slice e')) (h : w.ownsRow base e 1 v n xs) (h1 : ∀ u ∈ xs, u.oneCell' = true) : Src P 1 tx v n xs w := by
  rcases h.2 with ⟨rfl, rfl⟩ | ⟨g, cap, cur, rfl, hb, hh, hc, hm, hs, ht⟩
  · have : xs = [] := List.eq_nil_of_length_eq_zero (by simpa using h.1)
    subst this
    exact Src.ofNil w hk 0
  · exact Src.ofSlice w hk _ _ _ _ h.1 (h.cells (g := g) rfl) h1

/-- A byte slice as a text. -/
theorem run_str (w : World) (g cap : Nat) (l : List UInt8) (hb : Blk w g 5 (l.map B).toArray) : (convert 27 9 (.slice (some ⟨g, 0, none⟩) l.length cap)).run Tryz.prog w = .ok (.string ⟨l.toArray⟩) w :=
  run_convert_bytes_back w 27 9 5 ⟨g, 0, none⟩ cap l Tryz.underlying27 Tryz.underlying5 Tryz.underlying9 (fun j hj => by
    rw [Addr.add_mid, hb.cell, Nat.zero_add, List.getElem?_toArray, List.getElem?_map, List.getElem?_eq_getElem hj]
    rfl)
theorem wpList_str {ops : Array Oper} {rest : List Oper} {a : Act} {w : World} {Q : Exit → Act → World → Prop} {x : Operand} {d : Nat} {ot : TypeId} {pos : String} {after : Array Edge} (g cap N : Nat) (l : List UInt8) (hN : l.length = N)
    (hx : a.eval x = .slice (some ⟨g, 0, none⟩) N cap) (hb : Blk w g 5 (l.map B).toArray)
    (h : wpList Tryz.prog ops Q rest ⟨a.tmps.setIfInBounds d (.string ⟨l.toArray⟩), a.defers⟩ w) : wpList Tryz.prog ops Q (⟨some d, .convert 27 9 x, ot, pos, after, none⟩ :: rest) a w := by
  subst hN
  refine wpList_plain rfl fun K hK => ?_
  unfold Oper.wp execOp
  simp only [hx, Sem.run_bind, run_str w g cap l hb, Sem.run_pure, Result.andThen_ok]
  exact hK _ _ h
/-- A new row of bytes. -/
theorem wpList_mk {ops : Array Oper} {rest : List Oper} {a : Act} {w : World} {Q : Exit → Act → World → Prop} {x y : Operand} {d : Nat} {ot : TypeId} {pos : String} {after : Array Edge} (g N : Nat) (c : Int) (hc : c = (N : Int)) (hN : N ≤ 140737488355328) (hg : w.heap.size = g)
    (hx : a.eval x = .int .i64 c) (hy : a.eval y = .int .i64 c) {i0 : TypeInfo} (hi0 : Tryz.prog.info? 5 = some i0) (hz0 : i0.zero = some (.int .u8 0)) (hz1 : i0.size = 1) (hz2 : i0.bytes = 1)
    (h : ∀ w', Blk w' g 5 ((List.replicate N 0).map B).toArray → Below g w w' → w'.heap.size = g + 1 → wpList Tryz.prog ops Q rest ⟨a.tmps.setIfInBounds d (.slice (some ⟨g, 0, none⟩) N N), a.defers⟩ w') : wpList Tryz.prog ops Q (⟨some d, .makeSlice 27 x y, ot, pos, after, none⟩ :: rest) a w := by
  subst hg
  subst hc
  refine wpList_plain rfl fun K hK => ?_
  have hr := run_make (P := Tryz.prog) w 27 5 i0 (.int .u8 0) Tryz.underlying27 hi0 hz0 .i64 .i64 (N : Int) (N : Int) (by omega) (Int.le_refl _) (by rw [hz2]; omega) (by omega)
  have hm : madeCells (Value.int .u8 0).cells (N * i0.size) = ((List.replicate N 0).map B).toArray := by
    rw [hz1, Nat.mul_one]
    apply Array.ext_getElem?
    intro j
    by_cases hj : j < N
    · simp [madeCells, hj, Value.cells, Nat.mod_one]
    · simp [madeCells, hj]
  simp only [Int.toNat_natCast, hm] at hr
  unfold Oper.wp execOp
  simp only [hx, hy, hr, Sem.run_bind, Sem.run_pure, Result.andThen_ok]
  exact hK _ _ (h _ (Blk.new _ _ _) ((Below.refl _ _).alloc (Nat.le_refl _) _) (by simp))

/-- The padding behind so many of its last bytes. -/
def padC (N n i : Nat) : List UInt8 := (List.range N).map fun j => if j = 0 then 0x80 else if N ≤ j + i then UInt8.ofNat (n * 8 / 256 ^ (N - 1 - j)) else 0
theorem padC_length (N n i : Nat) : (padC N n i).length = N := by simp [padC]
theorem padC_zero (N n : Nat) (h : 1 ≤ N) : ((List.replicate N 0).map B).toArray.setIfInBounds 0 (B 0x80) = ((padC N n 0).map B).toArray := by
  apply Array.ext_getElem?
  intro j
  rw [Array.getElem?_setIfInBounds]
  by_cases hj : j < N
  · by_cases h0 : j = 0
    · subst h0
      simp [padC, hj]
    · have h1 : ¬ (0 = j) := fun e => h0 e.symm
      have h2 : ¬ (N ≤ j) := by omega
      simp [padC, hj, h0, h1, h2]
  · have h1 : ¬ (0 = j) := by omega
    simp [padC, hj, h1]
theorem padC_set (N n i : Nat) (h : 9 ≤ N) (hi : i < 8) : ((padC N n i).map B).toArray.setIfInBounds (N - 1 - i) (B (UInt8.ofNat (n * 8 / 256 ^ i))) = ((padC N n (i + 1)).map B).toArray := by
  apply Array.ext_getElem?
  intro j
  rw [Array.getElem?_setIfInBounds]
  by_cases hj : j < N
  · by_cases h0 : N - 1 - i = j
    · rw [if_pos h0, if_pos (by simp [padC]; omega)]
      have h1 : ¬ j = 0 := by omega
      have h2 : N ≤ j + (i + 1) := by omega
      have h3 : N - 1 - j = i := by omega
      simp [padC, hj, h1, h2, h3]
    · rw [if_neg h0]
      have h4 : (N ≤ j + (i + 1)) = (N ≤ j + i) := by
        apply propext
        omega
      simp [padC, hj, h4]
  · have h1 : ¬ (N - 1 - i = j) := by omega
    simp [padC, hj, h1]
theorem padC_all (n : Nat) : padC (1 + zerosFor n + 8) n 8 = padL n := by
  apply List.ext_getElem?
  intro j
  by_cases hj : j < 1 + zerosFor n + 8
  · rcases Nat.eq_zero_or_pos j with h0 | h0
    · subst h0
      simp [padC, padL]
    · obtain ⟨m, rfl⟩ : ∃ m, j = m + 1 := ⟨j - 1, by omega⟩
      by_cases h1 : m < zerosFor n
      · have h2 : ¬ (1 + zerosFor n ≤ m + 1) := by omega
        simp [padC, padL, hj, List.getElem?_append_left, h1, h2]
      · have h2 : 1 + zerosFor n ≤ m + 1 := by omega
        have h3 : m - zerosFor n < 8 := by omega
        have h4 : 1 + zerosFor n + 6 - m = 7 - (m - zerosFor n) := by omega
        simp [padC, padL, hj, List.getElem?_append_right, beL, h3, Nat.le_of_not_lt h1, h4, h2]
  · rw [List.getElem?_eq_none (by simp [padC]; omega), List.getElem?_eq_none (by rw [padL_length]; omega)]
theorem byte_num (n k : Nat) (x : Int) (h : x = ((n * 8 / 256 ^ k % 256 : Nat) : Int)) : Value.int .u8 x = B (UInt8.ofNat (n * 8 / 256 ^ k)) := by
  rw [h]
  show _ = Value.int .u8 _
  simp

/-- A digest's bytes as cells. -/
def bcells (l : List UInt8) : Array Value := (l.map B).toArray
theorem bcells_size (l : List UInt8) : (bcells l).size = l.length := by simp [bcells]
theorem bcells_one (l : List UInt8) : (bcells l).all (·.oneCell') = true := by
  rw [Array.all_eq_true]
  intro i hi
  simp [bcells]
  rfl
def outP (s : S8) (k : Nat) : Array Value := ((List.range 32).map fun i => if i < k then B (byteAt s i) else B 0).toArray
theorem outP_zero (s : S8) : outP s 0 = z32 := by rfl
theorem outP_all (s : S8) : outP s 32 = bcells (outL s) := by rfl
theorem outP_at (s : S8) (k : Nat) (h : k < 32) : (outP s k)[k]? = some (B 0) := by simp [outP, h]
theorem outP_set (s : S8) (k : Nat) (h : k < 32) : (outP s k).setIfInBounds k (B (byteAt s k)) = outP s (k + 1) := by
  apply Array.ext_getElem?
  intro j
  rw [Array.getElem?_setIfInBounds]
  by_cases hj : j < 32
  · by_cases h0 : k = j
    · subst h0
      simp [outP, h]
    · have h4 : (j < k + 1) = (j < k) := by
        apply propext
        omega
      simp [outP, hj, h0, h4]
  · have h1 : ¬ (k = j) := by omega
    simp [outP, hj, h1]
theorem dcells_at (s : S8) (rv av : Value) (k : Nat) (h : k < 8) : (dcells s rv av)[k]? = some (W (outAt s k)) := by
  rw [← dpart_zero]
  exact dpart_at s s rv av 0 k (Nat.zero_le _) h

theorem byte_out (x : U32) (m : Nat) : Value.int .u8 (((x.toNat : Int) >>> m) % 256) = B (UInt8.ofNat (x >>> m).toNat) := by
  have e : ((x.toNat : Int) >>> m) = ((x.toNat >>> m : Nat) : Int) := rfl
  rw [e, BitVec.toNat_ushiftRight]
  show Value.int .u8 _ = Value.int .u8 _
  simp

theorem new_any (w : World) : Calls Tryz.prog 52 #[] w fun e w' => e = .returned (.pointer (some ⟨w.heap.size, 0, none⟩)) ∧ w' = w.alloc (.cells (dcells s0 (.slice none 0 0) (.int .i64 (0 : Nat))) 119) := by
  have hb : Tryz.prog.built 63 [(0, Value.int .u32 1779033703), (1, .int .u32 3144134277), (2, .int .u32 1013904242), (3, .int .u32 2773480762), (4, .int .u32 1359893119), (5, .int .u32 2600822924), (6, .int .u32 528734635), (7, .int .u32 1541459225)] = some (scells s0) := by kernel_rfl
  go_enter Tryz.func52, Tryz.ntmps52
  go_wp2
  go_ret
  exact ⟨rfl, rfl⟩

set_option maxRecDepth 100000 in
set_option maxHeartbeats 3000000 in
theorem sum_any (D base : Nat) (rv : Value) (h : S8) (r : List UInt8) (n : Nat) (w : World) (hr : r.length < 64) (hrn : r.length = n % 64) (hn : n ≤ 576460752303423488) (hd : Dig w D base rv h r n) :
    Calls Tryz.prog 54 #[.pointer (some ⟨D, 0, none⟩)] w fun e w' => e = .returned (.agg (bcells (outL (Go.Proofs.YtmhbkilpllgchaaGreatDoor.hs h (r ++ padL n) ((r ++ padL n).length / 64))))) ∧ Below w.heap.size w w' := by
  have HRN := Lib.hid hrn
  clear hrn
  obtain ⟨i0, hi0, hz0, hz1, hz2⟩ := info_parts info5
  have hlt := hd.blk.lt
  have hne := row_blk_ne hd.row hd.blk (by decide)
  go_enter Tryz.func54, Tryz.ntmps54
  go_wp2_with (refine wpList_alN (d := 2) z32 zero29 w.heap.size rfl ?_; simp only [List.setIfInBounds_toArray, List.set_cons_succ, List.set_cons_zero])
  obtain ⟨wv, ev⟩ : ∃ wv, wv = w.alloc (.cells z32 36) := ⟨_, rfl⟩
  rw [← ev]
  have hDv : Blk wv D 119 (dcells h rv (.int .i64 (n : Int))) := by rw [ev]; exact hd.blk.alloc _
  have hRv : wv.ownsRow base 5 1 rv r.length (r.map B) := by rw [ev]; exact hd.row.alloc _
  have hLv : Blk wv w.heap.size 36 z32 := by rw [ev]; exact Blk.new _ _ _
  have hbv : Below w.heap.size w wv := by rw [ev]; exact (Below.refl _ _).alloc (Nat.le_refl _) _
  clear ev
  have c0 : wv.cell? ⟨D, 0, none⟩ = some (W h.a) := by rw [hDv.cell]; rfl
  have c1 : wv.cell? ⟨D, 1, none⟩ = some (W h.b) := by rw [hDv.cell]; rfl
  have c2 : wv.cell? ⟨D, 2, none⟩ = some (W h.c) := by rw [hDv.cell]; rfl
  have c3 : wv.cell? ⟨D, 3, none⟩ = some (W h.d) := by rw [hDv.cell]; rfl
  have c4 : wv.cell? ⟨D, 4, none⟩ = some (W h.e) := by rw [hDv.cell]; rfl
  have c5 : wv.cell? ⟨D, 5, none⟩ = some (W h.f) := by rw [hDv.cell]; rfl
  have c6 : wv.cell? ⟨D, 6, none⟩ = some (W h.g) := by rw [hDv.cell]; rfl
  have c7 : wv.cell? ⟨D, 7, none⟩ = some (W h.h) := by rw [hDv.cell]; rfl
  have c8 : wv.cell? ⟨D, 8, none⟩ = some rv := by rw [hDv.cell]; rfl
  have hRd : wv.drew.ownsRow base 5 1 rv r.length (r.map B) := hRv
  have hltv : D < wv.drew.heap.size := hDv.lt
  go_region_held3 (fun w' => w'.cell? ⟨D, 0, none⟩ = some (W h.a) ∧ w'.cell? ⟨D, 1, none⟩ = some (W h.b) ∧ w'.cell? ⟨D, 2, none⟩ = some (W h.c) ∧ w'.cell? ⟨D, 3, none⟩ = some (W h.d) ∧ w'.cell? ⟨D, 4, none⟩ = some (W h.e) ∧ w'.cell? ⟨D, 5, none⟩ = some (W h.f) ∧ w'.cell? ⟨D, 6, none⟩ = some (W h.g) ∧ w'.cell? ⟨D, 7, none⟩ = some (W h.h) ∧ w'.cell? ⟨D, 8, none⟩ = some rv) (first | go_keep | (refine ⟨?_, ?_, ?_, ?_, ?_, ?_, ?_, ?_, ?_⟩ <;> (refine (hgr2.cell_far _ hltv (by simp [Value.ownBlock])).trans ?_; first | exact c0 | exact c1 | exact c2 | exact c3 | exact c4 | exact c5 | exact c6 | exact c7 | exact c8))) ((refine step_app rfl _ _ _ _ rfl wv.heap.size 5 i0 (.int .u8 0) 1 1 Tryz.underlying27 hi0 hz0 hz1 hz2 rfl (.slice none 0 0) 0 [] rfl (World.ownsRow_nil _ _ _ _) rv r.length (r.map B) rfl (src_own Tryz.underlying27 hRd (map_B_one r)) (by simp only [maxLen]; omega) (by omega) (Nat.le_refl _) ?_; intro p2 c2' w2 hown2 hgr2 hat2 hnil2))
  rename_i hHeld
  clear hHeld c0 c1 c2 c3 c4 c5 c6 c7 c8
  have hX : Blk (w2.alloc (.cells #[W h.a, W h.b, W h.c, W h.d, W h.e, W h.f, W h.g, W h.h, .slice p2 r.length c2', .int .i64 0] 119)) w2.heap.size 119 (dcells h (.slice p2 r.length c2') (.int .i64 ((0 : Nat) : Int))) := Blk.new _ _ _
  rw [Nat.zero_add, List.nil_append] at hown2
  rw [Nat.zero_add] at hnil2
  have hRx := hown2.alloc (.cells #[W h.a, W h.b, W h.c, W h.d, W h.e, W h.f, W h.g, W h.h, .slice p2 r.length c2', .int .i64 0] 119)
  have hgrx : wv.grownBy w2 none := ⟨hgr2.os, hgr2.tape, hgr2.output, hgr2.size, hgr2.block⟩
  have hDx := (hDv.grown hgrx (by simp)).alloc (.cells #[W h.a, W h.b, W h.c, W h.d, W h.e, W h.f, W h.g, W h.h, .slice p2 r.length c2', .int .i64 0] 119)
  have hLx := (hLv.grown hgrx (by simp)).alloc (.cells #[W h.a, W h.b, W h.c, W h.d, W h.e, W h.f, W h.g, W h.h, .slice p2 r.length c2', .int .i64 0] 119)
  have hbx : Below w.heap.size w (w2.alloc (.cells #[W h.a, W h.b, W h.c, W h.d, W h.e, W h.f, W h.g, W h.h, .slice p2 r.length c2', .int .i64 0] 119)) := (hbv.trans ⟨hgrx.os, hgrx.tape, hgrx.output, hgrx.size, fun i hi => hgrx.block i (by have := hbv.size; omega) (by simp)⟩).alloc (by have := hbv.size; have := hgrx.size; omega) _
  have hsx : (w2.alloc (.cells #[W h.a, W h.b, W h.c, W h.d, W h.e, W h.f, W h.g, W h.h, .slice p2 r.length c2', .int .i64 0] 119)).heap.size = w2.heap.size + 1 := by simp
  have hX0 : w.heap.size < w2.heap.size := by have := hgrx.size; have := hLv.lt; omega
  have hX1 : wv.heap.size ≤ w2.heap.size := hgrx.size
  have hwv : w.heap.size < wv.heap.size := hLv.lt
  obtain ⟨wx, ex⟩ : ∃ wx, wx = w2.alloc (.cells #[W h.a, W h.b, W h.c, W h.d, W h.e, W h.f, W h.g, W h.h, .slice p2 r.length c2', .int .i64 0] 119) := ⟨_, rfl⟩
  rw [← ex] at hX hRx hDx hLx hbx hsx ⊢
  obtain ⟨X, eX⟩ : ∃ X, X = w2.heap.size := ⟨_, rfl⟩
  rw [← eX] at hX hX0 hX1 hsx ⊢
  have hDX : Dig wx X wv.heap.size (.slice p2 r.length c2') h r 0 := ⟨hX, hRx, fun e => hnil2.2 ⟨rfl, by rw [e]; rfl⟩⟩
  clear ex eX hgr2 hat2 hnil2 hown2 hgrx hDv hRv hLv hbv hRd hltv
  have x8 : wx.cell? ⟨X, 8, none⟩ = some (.slice p2 r.length c2') := by rw [hX.cell]; rfl
  have d9 : wx.cell? ⟨D, 9, none⟩ = some (.int .i64 (n : Int)) := by rw [hDx.cell]; rfl
  obtain ⟨z, hz⟩ : ∃ z, z = zerosFor n := ⟨_, rfl⟩
  have hzr : (119 - (r.length : Int)) % 64 = (z : Int) := by rw [hz, zerosFor, ← HRN.out]; omega
  have hz64 : z < 64 := by rw [hz, zerosFor]; omega
  have HZ := Lib.hid hz
  clear hz
  obtain ⟨N, hN⟩ : ∃ N, N = 1 + z + 8 := ⟨_, rfl⟩
  have hN1 : 9 ≤ N := by omega
  have hN2 : N ≤ 72 := by omega
  have hNi : 1 + (z : Int) + 8 = (N : Int) := by omega
  have HN := Lib.hid hN
  clear hN
  have HNi := Lib.hid hNi
  clear hNi
  go_wp2_with (refine wpList_mk (X + 1) N _ HNi.out (by omega) hsx rfl rfl hi0 hz0 hz1 hz2 ?_; intro wy hY0 hby hsy; have y0 : wy.cell? ⟨X + 1, 0, none⟩ = some (B 0) := (by rw [hY0.cell, List.getElem?_toArray, List.getElem?_map, List.getElem?_replicate, if_pos (by omega)]; rfl); have yf := hY0.frozen 0; simp only [List.setIfInBounds_toArray, List.set_cons_succ, List.set_cons_zero])
  have hY1 : Blk (wy.setCell ⟨X + 1, 0, none⟩ (.int .u8 128)) (X + 1) 5 ((padC N n 0).map B).toArray := by rw [← padC_zero N n (by omega)]; exact hY0.set_ 0 _
  have hb1 : Below (X + 1) wx (wy.setCell ⟨X + 1, 0, none⟩ (.int .u8 128)) := hby.setCell (p := ⟨X + 1, 0, none⟩) (Nat.le_refl _) _
  obtain ⟨wo, ew⟩ : ∃ wo, wo = wy.setCell ⟨X + 1, 0, none⟩ (.int .u8 128) := ⟨_, rfl⟩
  rw [← ew] at hY1 hb1 ⊢
  clear ew hY0 hby y0 yf hsy
  go_loopw [34] (fun i wr => ∃ k : Nat, k ≤ 8 ∧ i = .int .i64 k ∧ Blk wr (X + 1) 5 ((padC N n k).map B).toArray ∧ Below (X + 1) wx wr) (fun i _ => 8 - (intOf i).toNat)
  case atStart => exact ⟨0, by omega, rfl, hY1, hb1⟩
  case round =>
    clear hY1 hb1
    obtain ⟨k, hk, rfl, hYk, hbk⟩ := hrel
    by_cases h1 : k < 8
    · have hq : N - 1 - k < N := by omega
      have y0 : ∃ u, wr.cell? ⟨X + 1, N - 1 - k, none⟩ = some u := by
        rw [hYk.cell, List.getElem?_toArray, List.getElem?_map, List.getElem?_eq_getElem (by rw [padC_length]; exact hq)]
        exact ⟨_, rfl⟩
      obtain ⟨u0, y0⟩ := y0
      have yf := hYk.frozen (N - 1 - k)
      have d9k : wr.cell? ⟨D, 9, none⟩ = some (.int .i64 (n : Int)) := (hbk.cell (p := ⟨D, 9, none⟩) (show D < X + 1 by omega)).trans d9
      have hidx : ((N : Int) - 1 - (k : Int)).toNat = N - 1 - k := by omega
      go_wp2
      go_roundw
      case rel =>
        have hv : Value.int .u8 ((n : Int) * 8 / 2 ^ (8 * k) % 256) = B (UInt8.ofNat (n * 8 / 256 ^ k)) := byte_num n k _ (by rw [show (256 : Nat) = 2 ^ 8 from rfl, ← Nat.pow_mul]; push_cast; rfl)
        exact ⟨k + 1, by omega, by go_num, by rw [hv, ← padC_set N n k hN1 h1]; exact hYk.set_ _ _, hbk.setCell (p := ⟨X + 1, N - 1 - k, none⟩) (Nat.le_refl _) _⟩
      case measure => simp [intOf]; omega
    · obtain rfl : k = 8 := by omega
      have hpad : padC N n 8 = padL n := by rw [HN.out, HZ.out, padC_all]
      have hpl : (padL n).length = N := by rw [← hpad, padC_length]
      rw [hpad] at hYk
      have HP := Lib.hid (And.intro hpad hpl)
      clear hpad hpl
      go_wp2_with (refine wpList_str (X + 1) N N (padL n) HP.out.2 rfl hYk ?_; simp only [List.setIfInBounds_toArray, List.set_cons_succ, List.set_cons_zero])
      have hszw := hbk.size
      have hgk : wx.grownBy wr none := grown_below hbk (by omega) _
      have hDr : Dig wr X wv.heap.size (.slice p2 r.length c2') h r 0 := ⟨hX.below hbk (by omega), hRx.kept hgk (by cases hq : (Value.slice p2 r.length c2').ownBlock <;> simp), hDX.nil⟩
      refine (write_any X wv.heap.size _ h r 0 ⟨(padL n).toArray⟩ wr hr (by have := HP.out.2; simp [ByteArray.size]; omega) (by have := HP.out.2; simp [ByteArray.size]; omega) hDr (by omega)).mono ?_
      rintro e w3 ⟨rfl, rv3, hD3, _, hK3⟩
      have hrow2 : some w.heap.size ≠ (Value.slice p2 r.length c2').ownBlock := fun e => by
        have := (hRx.lt _ e.symm).1
        have := hwv
        omega
      have hL3 : Blk w3 w.heap.size 36 z32 := (hK3.block _ (by omega) (by omega) hrow2).trans (hLx.below hbk (by omega))
      have hb3 : Below w.heap.size w w3 := (hbx.trans (hbk.mono (by omega))).trans ⟨hK3.os, hK3.tape, hK3.output, hK3.size, fun i hi => hK3.block i (by omega) (by omega) (fun e => by
        have := (hRx.lt _ e.symm).1
        have := hwv
        omega)⟩
      obtain ⟨S, hS⟩ : ∃ S, S = Go.Proofs.YtmhbkilpllgchaaGreatDoor.hs h (r ++ padL n) ((r ++ padL n).length / 64) := ⟨_, rfl⟩
      have hX3 : Blk w3 X 119 (dcells S rv3 (.int .i64 ((0 + (⟨(padL n).toArray⟩ : ByteArray).size : Nat) : Int))) := by rw [hS]; exact hD3.blk
      have HS := Lib.hid hS
      clear hS hD3
      have hsz3 := hK3.size
      have hXlt := hX3.lt
      have hM0 : Blk (w3.alloc (.cells z32 36)) w3.heap.size 36 (outP S 0) := by rw [outP_zero]; exact Blk.new _ _ _
      have hXM := hX3.alloc (.cells z32 36)
      have hLM := hL3.alloc (.cells z32 36)
      have hbM := hb3.alloc (by omega) (.cells z32 36)
      have hMs : w3.heap.size < (w3.alloc (.cells z32 36)).heap.size := hM0.lt
      go_wp2_with (refine wpList_alN (d := 6) z32 zero29 w3.heap.size rfl ?_; simp only [List.setIfInBounds_toArray, List.set_cons_succ, List.set_cons_zero])
      obtain ⟨wm, em⟩ : ∃ wm, wm = w3.alloc (.cells z32 36) := ⟨_, rfl⟩
      rw [← em] at hM0 hXM hLM hbM hMs ⊢
      obtain ⟨M, eM⟩ : ∃ M, M = w3.heap.size := ⟨_, rfl⟩
      rw [← eM] at hM0 hXlt hMs hsz3 ⊢
      have hMw : w.heap.size < M := by omega
      clear em eM hX3 hL3 hb3
      go_loopw [59] (fun i wr => ∃ k : Nat, k ≤ 32 ∧ i = .int .i64 k ∧ Blk wr M 36 (outP S k) ∧ Below M wm wr) (fun i _ => 32 - (intOf i).toNat)
      case atStart => exact ⟨0, by omega, rfl, hM0, Below.refl _ _⟩
      case round =>
        clear hM0
        obtain ⟨k, hk, rfl, hMk, hbk2⟩ := hrel
        by_cases h2 : k < 32
        · have e0 : wr.cell? ⟨X, k / 4, none⟩ = some (W (outAt S (k / 4))) := by rw [(hXM.below hbk2 hXlt).cell]; exact dcells_at _ _ _ _ (by omega)
          have ef := hMk.frozen k
          have e1 : wr.cell? ⟨M, k, none⟩ = some (B 0) := by rw [hMk.cell]; exact outP_at S k h2
          go_wp2
          go_roundw
          case rel => exact ⟨k + 1, by omega, by go_num, by rw [byte_out, ← outP_set S k h2]; exact hMk.set_ k _, hbk2.setCell (p := ⟨M, k, none⟩) (Nat.le_refl _) _⟩
          case measure => simp [intOf]; omega
        · obtain rfl : k = 32 := by omega
          rw [outP_all] at hMk
          have hLk := hLM.below hbk2 hMw
          go_wp2_with (refine wpList_ld_row (d := 78) M _ rfl 36 hMk Tryz.underlying36 rfl (by rw [size29, bcells_size]; rfl) (wpList_st_row w.heap.size (bcells (outL S)) rfl rfl 36 z32 hLk (by rw [size29, bcells_size]; rfl) (by rw [bcells_size]; rfl) (bcells_one _) ?_); simp only [List.setIfInBounds_toArray, List.set_cons_succ, List.set_cons_zero])
          refine bodyPost_ret (results_cell_row rfl _ _ w.heap.size 36 _ (0, 0) _ rfl (hLk.row _) Tryz.underlying36 rfl (by rw [size29, bcells_size]; rfl)) rfl ⟨by rw [HS.out], below_setRow (hbM.trans (hbk2.mono (by omega))) (by omega) _⟩
end Go.Proofs.YtmhbkilpllgchaaGreatDoor
