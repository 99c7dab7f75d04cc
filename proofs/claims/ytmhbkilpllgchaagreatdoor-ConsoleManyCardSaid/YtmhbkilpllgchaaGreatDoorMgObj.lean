/- object.HashOf and the reference's Object. Small laws from the first seat. A region whose order is open: operations that only read, then one that makes memory and may come up before some of them, then a tail in one row. -/
import Derived.Test.YtmhbkilpllgchaaGreatDoorTagE
import Derived.Test.YtmhbkilpllgchaaGreatDoorRegion
import Derived.Test.YtmhbkilpllgchaaGreatDoorShaS
import Derived.OrdersHeld
import Derived.Great.BuildSlice
namespace Go.Proofs.YtmhbkilpllgchaaGreatDoor
open Go.RowKit BigFrame
set_option linter.unusedVariables false
set_option linter.unusedSimpArgs false

/-- An object's hash; has it one? -/
def objH (s : ByteArray) : List UInt8 := tagH 0 [s]
def objOk (s : ByteArray) : Bool := tagOk 0 [s]
theorem objH_length (s : ByteArray) : (objH s).length = 32 := tagH_length 0 [s]
theorem objOk_iff (s : ByteArray) : objOk s = decide (s.size ≤ 65536) := by
  show (decide ((0 : Int) ≤ 0) && decide ((0 : Int) ≤ 4) && decide (total [s] ≤ 65536)) = _
  have : total [s] = s.size := by simp [total]
  rw [this]; simp
def objE (s : ByteArray) : Int := tagE 0 [s]
theorem tagT_one (s : ByteArray) : tagT 0 [s] = .tuple #[.agg (bcells (objH s)), .int .i64 (objE s)] := by
  unfold tagT objH objE
  exact rfl
theorem objOk_eq (s : ByteArray) : objOk s = (objE s == 0) := by
  unfold objOk objE tagE
  by_cases h : tagOk 0 [s] = true
  · rw [if_pos h, h]; rfl
  · rw [if_neg h]
    rw [Bool.not_eq_true] at h
    rw [h]; rfl
theorem tag_one (s : ByteArray) (w : World) (N : Nat) (hN : N = w.heap.size) (hs : s.size ≤ 140737488351232) :
    Calls Tryz.prog 55 #[.int .i64 0, .slice (some ⟨N, 0, none⟩) 1 1] (w.alloc (.cells #[.string s] 9)) fun e w' => e = .returned (tagT 0 [s]) ∧ Below w.heap.size w w' := by
  subst hN
  have := tag_any 0 (some ⟨w.heap.size, 0, none⟩) [s] 1 (w.alloc (.cells #[.string s] 9)) (by rw [List.length_singleton]; omega) (strs_new _ (Blk.new w 9 _)) (fun j hj => by
    obtain rfl : j = 0 := by simp at hj; omega
    exact hs)
  exact this.mono fun e w' h => ⟨h.1, ((Below.refl _ _).alloc (Nat.le_refl _) _).trans (h.2.mono (by simp))⟩
theorem rtag_one (s : ByteArray) (w : World) (N : Nat) (hN : N = w.heap.size) (hs : s.size ≤ 140737488351232) :
    Calls Tryz.prog 42 #[.int .i64 0, .slice (some ⟨N, 0, none⟩) 1 1] (w.alloc (.cells #[.string s] 9)) fun e w' => e = .returned (tagT 0 [s]) ∧ Below w.heap.size w w' := by
  subst hN
  have := rtag_all 0 (some ⟨w.heap.size, 0, none⟩) [s] 1 (w.alloc (.cells #[.string s] 9)) (by rw [List.length_singleton]; omega) (strs_new _ (Blk.new w 9 _)) (fun j hj => by
    obtain rfl : j = 0 := by simp at hj; omega
    exact hs)
  exact this.mono fun e w' h => ⟨h.1, ((Below.refl _ _).alloc (Nat.le_refl _) _).trans (h.2.mono (by simp))⟩

set_option maxRecDepth 100000 in
set_option maxHeartbeats 2000000 in
theorem hashof_any (s : ByteArray) (w : World) (hs : s.size ≤ 140737488351232) :
    Calls Tryz.prog 34 #[.string s] w fun e w' => e = .returned (.tuple #[.agg (bcells (objH s)), .bool (objOk s)]) ∧ Below w.heap.size w w' := by
  obtain ⟨L, eL⟩ : ∃ L, L = w.heap.size := ⟨_, rfl⟩
  obtain ⟨H, eH⟩ : ∃ H, H = objH s := ⟨_, rfl⟩
  have hHl : H.length = 32 := by rw [eH]; exact objH_length s
  obtain ⟨E, eE⟩ : ∃ E, E = objE s := ⟨_, rfl⟩
  have hT : tagT 0 [s] = .tuple #[.agg (bcells H), .int .i64 E] := by rw [eH, eE]; exact tagT_one s
  have hok : objOk s = (E == 0) := by rw [eE]; exact objOk_eq s
  have hL1 : Blk (w.alloc (.cells z32 36)) L 36 z32 := by rw [eL]; exact Blk.new _ _ _
  have hb1 : Below L w (w.alloc (.cells z32 36)) := (Below.refl _ _).alloc (by omega) _
  have s1 : (w.alloc (.cells z32 36)).heap.size = L + 1 := by rw [eL]; simp
  have hc := tag_one s (w.alloc (.cells z32 36)) (w.heap.size + 1) (by simp) hs
  rw [hT] at hc
  have C := Lib.hid (And.intro hc (And.intro eH (And.intro eE (And.intro hHl (And.intro eL (And.intro hL1 (And.intro hb1 s1)))))))
  rw [← eL, ← eH, hok]
  clear hc eH eE hHl hT hs hL1 hb1 s1 hok
  go_enter Tryz.func34, Tryz.ntmps34
  go_wp2_with (refine wpList_alN (d := 2) z32 zero29 L eL.symm ?_; simp only [List.setIfInBounds_toArray, List.set_cons_succ, List.set_cons_zero])
  clear eL
  refine C.out.1.mono ?_
  rintro e w2 ⟨rfl, hb2⟩
  have hs2 := hb2.size
  rw [C.out.2.2.2.2.2.2.2] at hb2 hs2
  have hL2 := C.out.2.2.2.2.2.1.below hb2 (by omega)
  have hbw2 := C.out.2.2.2.2.2.2.1.trans (hb2.mono (by omega))
  clear hb2
  have hs2' : L < w2.heap.size := by omega
  have hG0 : Blk (w2.alloc (.cells z32 36)) w2.heap.size 36 z32 := Blk.new _ _ _
  have hG3 : Blk ((w2.alloc (.cells z32 36)).setRow w2.heap.size (bcells H)) w2.heap.size 36 (bcells H) := hG0.row _
  have hL3 : Blk ((w2.alloc (.cells z32 36)).setRow w2.heap.size (bcells H)) L 36 z32 := (hL2.alloc _).rowFar (by omega) _
  have hb3 : Below L w ((w2.alloc (.cells z32 36)).setRow w2.heap.size (bcells H)) := below_setRow (hbw2.alloc (by omega) _) (by omega) _
  clear hs2
  have hb4 : Below L w (((w2.alloc (.cells z32 36)).setRow w2.heap.size (bcells H)).setRow L (bcells H)) := below_setRow hb3 (Nat.le_refl _) _
  go_wp2_with (first
    | (refine wpList_alN (d := 4) z32 zero29 w2.heap.size rfl (wpList_st_row w2.heap.size (bcells H) rfl rfl 36 z32 hG0 (by rw [size29, bcells_size, C.out.2.2.2.1]) (by rw [bcells_size, C.out.2.2.2.1]; rfl) (bcells_one _) ?_); simp only [List.setIfInBounds_toArray, List.set_cons_succ, List.set_cons_zero])
    | (refine wpList_ld_row (d := 12) w2.heap.size _ rfl 36 hG3 Tryz.underlying36 rfl (by rw [size29, bcells_size, C.out.2.2.2.1]) ?_; simp only [List.setIfInBounds_toArray, List.set_cons_succ, List.set_cons_zero])
    | (refine wpList_st_row L (bcells H) rfl rfl 36 z32 hL3 (by rw [size29, bcells_size, C.out.2.2.2.1]) (by rw [bcells_size, C.out.2.2.2.1]; rfl) (bcells_one _) ?_))
  refine bodyPost_ret (results_row_slot rfl _ _ L 36 (bcells H) (0, 0) _ rfl (hL3.row _) Tryz.underlying36 rfl (by rw [size29, bcells_size, C.out.2.2.2.1])) rfl ⟨rfl, hb4⟩

set_option maxRecDepth 100000 in
set_option maxHeartbeats 2000000 in
theorem obj_any (s : ByteArray) (w : World) (hs : s.size ≤ 140737488351232) :
    Calls Tryz.prog 21 #[.string s] w fun e w' => e = .returned (.agg (bcells (objH s))) ∧ Below w.heap.size w w' := by
  obtain ⟨L, eL⟩ : ∃ L, L = w.heap.size := ⟨_, rfl⟩
  obtain ⟨H, eH⟩ : ∃ H, H = objH s := ⟨_, rfl⟩
  have hHl : H.length = 32 := by rw [eH]; exact objH_length s
  obtain ⟨E, eE⟩ : ∃ E, E = objE s := ⟨_, rfl⟩
  have hT : tagT 0 [s] = .tuple #[.agg (bcells H), .int .i64 E] := by rw [eH, eE]; exact tagT_one s
  have hL1 : Blk (w.alloc (.cells z32 36)) L 36 z32 := by rw [eL]; exact Blk.new _ _ _
  have hb1 : Below L w (w.alloc (.cells z32 36)) := (Below.refl _ _).alloc (by omega) _
  have s1 : (w.alloc (.cells z32 36)).heap.size = L + 1 := by rw [eL]; simp
  have hc := rtag_one s (w.alloc (.cells z32 36)) (w.heap.size + 1) (by simp) hs
  rw [hT] at hc
  have C := Lib.hid (And.intro hc (And.intro eH (And.intro eE (And.intro hHl (And.intro eL (And.intro hL1 (And.intro hb1 s1)))))))
  rw [← eL, ← eH]
  clear hc eH eE hHl hT hs hL1 hb1 s1
  go_enter Tryz.func21, Tryz.ntmps21
  go_wp2_with (refine wpList_alN (d := 2) z32 zero29 L eL.symm ?_; simp only [List.setIfInBounds_toArray, List.set_cons_succ, List.set_cons_zero])
  clear eL
  refine C.out.1.mono ?_
  rintro e w2 ⟨rfl, hb2⟩
  have hs2 := hb2.size
  rw [C.out.2.2.2.2.2.2.2] at hb2 hs2
  have hL2 := C.out.2.2.2.2.2.1.below hb2 (by omega)
  have hbw2 := C.out.2.2.2.2.2.2.1.trans (hb2.mono (by omega))
  clear hb2
  have hs2' : L < w2.heap.size := by omega
  have hG0 : Blk (w2.alloc (.cells z32 36)) w2.heap.size 36 z32 := Blk.new _ _ _
  have hG3 : Blk ((w2.alloc (.cells z32 36)).setRow w2.heap.size (bcells H)) w2.heap.size 36 (bcells H) := hG0.row _
  have hL3 : Blk ((w2.alloc (.cells z32 36)).setRow w2.heap.size (bcells H)) L 36 z32 := (hL2.alloc _).rowFar (by omega) _
  have hb3 : Below L w ((w2.alloc (.cells z32 36)).setRow w2.heap.size (bcells H)) := below_setRow (hbw2.alloc (by omega) _) (by omega) _
  clear hs2
  have hb4 : Below L w (((w2.alloc (.cells z32 36)).setRow w2.heap.size (bcells H)).setRow L (bcells H)) := below_setRow hb3 (Nat.le_refl _) _
  go_wp2_with (first
    | (refine wpList_alN (d := 3) z32 zero29 w2.heap.size rfl (wpList_st_row w2.heap.size (bcells H) rfl rfl 36 z32 hG0 (by rw [size29, bcells_size, C.out.2.2.2.1]) (by rw [bcells_size, C.out.2.2.2.1]; rfl) (bcells_one _) ?_); simp only [List.setIfInBounds_toArray, List.set_cons_succ, List.set_cons_zero])
    | (refine wpList_ld_row (d := 11) w2.heap.size _ rfl 36 hG3 Tryz.underlying36 rfl (by rw [size29, bcells_size, C.out.2.2.2.1]) ?_; simp only [List.setIfInBounds_toArray, List.set_cons_succ, List.set_cons_zero])
    | (refine wpList_st_row L (bcells H) rfl rfl 36 z32 hL3 (by rw [size29, bcells_size, C.out.2.2.2.1]) (by rw [bcells_size, C.out.2.2.2.1]; rfl) (bcells_one _) ?_))
  refine bodyPost_ret (results_cell_row rfl _ _ L 36 (bcells H) (0, 0) _ rfl (hL3.row _) Tryz.underlying36 rfl (by rw [size29, bcells_size, C.out.2.2.2.1])) rfl ⟨rfl, hb4⟩
end Go.Proofs.YtmhbkilpllgchaaGreatDoor
namespace Go.Proofs.YtmhbkilpllgchaaGreatDoor
open Go.RowKit
set_option linter.unusedVariables false
theorem ba_ext3 {x y : ByteArray} (h : x.data.toList = y.data.toList) : x = y := by
  cases x; cases y
  congr 1
  exact Array.toList_inj.1 h
theorem wpList_mu {P : Program} {ops : Array Oper} {rest : List Oper} {a : Act} {w w' : World} {Q : Exit → Act → World → Prop} {t : TypeId} {m x v : Operand} {ot : TypeId} {pos : String} {after : Array Edge} (mv key val : Value)
    (hm : a.eval m = mv) (hx : a.eval x = key) (hv : a.eval v = val) (hrun : (Instr.mapUpdate t mv key val).run P w = .ok () w') (h : wpList P ops Q rest a w') : wpList P ops Q (⟨none, .mapUpdate t m x v, ot, pos, after, none⟩ :: rest) a w := by
  refine wpList_plain rfl fun K' hK' => ?_
  unfold Oper.wp
  simp [execOp, hm, hx, hv, hrun, Result.andThen]
  exact hK' _ _ h
def zeros32 : List UInt8 := List.replicate 32 0
theorem SV_map (ss : List ByteArray) : ∀ u ∈ ss.map SV, u.oneCell' = true := SV_one ss
theorem src_one {w : World} {g : Nat} {s : ByteArray} (h : Blk w g 9 #[.string s]) : Src Tryz.prog 1 28 (.slice (some ⟨g, 0, none⟩) 1 1) 1 [.string s] w := by
  refine Src.ofSlice _ Tryz.underlying28 _ 1 1 _ rfl (fun j u hu => ?_) (fun u hu => by
    simp only [List.mem_cons, List.not_mem_nil, or_false] at hu
    subst hu; rfl)
  rw [Addr.add_mid, Nat.zero_add, h.cell]
  simpa using hu
end Go.Proofs.YtmhbkilpllgchaaGreatDoor
namespace Go.Proofs.YtmhbkilpllgchaaGreatDoor
open Go.RowKit
set_option linter.unusedVariables false

section
variable {P : Program} {ops : Array Oper} {md : Region.Mode} {S : World → Prop} {Q : Exit → Act → World → Prop}

/-- The head, in whatever order it comes; S holds behind each of its operations. -/
def HeadH (P : Program) (md : Region.Mode) (ops : Array Oper) (Q : Exit → Act → World → Prop) (S : World → Prop) (n : Nat) (L : Array Bool → Act → World → Prop) : Nat → Array Bool → Act → World → Prop
  | 0, listed, a, w => L listed a w
  | f + 1, listed, a, w => Region.ready md ops listed ≠ [] ∧ ∀ i ∈ Region.ready md ops listed, i < n ∧ wpOp P ops Q i (fun a' w' => S w' ∧ HeadH P md ops Q S n L f (listed.setIfInBounds i true) a' w') a w

theorem headH_any {n g : Nat} {L : Array Bool → Act → World → Prop} (hL : ∀ listed a w, L listed a w → wpAny P md ops Q g listed a w) :
    ∀ (f : Nat) (listed : Array Bool) (a : Act) (w : World), HeadH P md ops Q S n L f listed a w → wpAny P md ops Q (f + g) listed a w
  | 0, listed, a, w, h => by rw [Nat.zero_add]; exact hL _ _ _ h
  | f + 1, listed, a, w, h => by
    rw [show f + 1 + g = (f + g) + 1 by omega]
    exact ⟨fun h0 => absurd h0 h.1, fun i hi => wpOp_mono (fun a' w' h' => headH_any hL f _ a' w' h'.2) (h.2 i hi).2⟩

theorem headH_first {n i : Nat} {oi : Oper} {v : Value} {L : Array Bool → Act → World → Prop} (hi : ops[i]? = some oi) (hsel : ∀ (j : Nat) (o : Oper) cs b, ops[j]? = some o → o.op ≠ .select cs b)
    (hQ : ∀ c a w, Q (.panic c) (a.put oi.dst v) w → Q (.panic c) a w)
    (hs : Region.sinkB md ops n = true) (hc : Region.chainB md ops n = true) (hn : n < ops.size) (hin : i < n)
    (hdone : ∀ listed a w, L listed a w → ∀ j ∈ Region.ready md ops listed, n ≤ j) :
    ∀ (f : Nat) (listed : Array Bool) (a : Act) (w : World), HeadInv md ops n listed →
      (∀ j oj, ops[j]? = some oj → j ≠ i → listed.getD j true = false → (∀ e ∈ oj.after, Region.binds md e = true → e.on ≠ i) → oi.apart ops oj = true) →
      i ∈ Region.ready md ops listed → YieldsIf P ops S oi v a → S w →
      HeadH P md ops Q S n L f (listed.setIfInBounds i true) (a.put oi.dst v) w → HeadH P md ops Q S n L (f + 1) listed a w
  | f, listed, a, w, inv, hfree, hr, hy, hS, H => by
    have hun := (mem_ready.1 hr).1
    refine ⟨fun h => (by rw [h] at hr; cases hr), fun j hj => ?_⟩
    have hjn : j < n := by
      rcases Nat.lt_or_ge j n with h | h
      · exact h
      · exact absurd hj (tail_waits hs hc hn inv _ i rfl hin hun j h)
    refine ⟨hjn, ?_⟩
    by_cases hji : j = i
    · subst hji; exact hy.wpOp hi hS ⟨hS, H⟩
    · cases f with
      | zero =>
        have := hdone _ _ _ H j (ready_mono hj hji)
        omega
      | succ f =>
        have h1 := (H.2 j (ready_mono hj hji)).2
        obtain ⟨hjun, oj, hoj, hall⟩ := mem_ready.1 hj
        have hnot : ∀ e ∈ oj.after, Region.binds md e = true → e.on ≠ i := fun e he hb heq => by
          have h2 := hall e he hb
          rw [heq, getD_both hun] at h2
          cases h2
        have h2 := wpOp_putIf hoj (hfree j oj hoj hji hjun hnot) (fun cs b => hsel i oi cs b hi) (fun cs b => hsel j oj cs b hoj) hQ hy h1
        have hfree' : ∀ k ok, ops[k]? = some ok → k ≠ i → (listed.setIfInBounds j true).getD k true = false →
            (∀ e ∈ ok.after, Region.binds md e = true → e.on ≠ i) → oi.apart ops ok = true := fun k ok hk hki hun hno => by
          refine hfree k ok hk hki ?_ hno
          by_cases hjk : j = k
          · subst hjk; exact hjun
          · rw [getD_set_ne true hjk] at hun; exact hun
        refine wpOp_mono (fun a' w' h3 => ⟨h3.2.1, headH_first hi hsel hQ hs hc hn hin hdone f (listed.setIfInBounds j true) a' w' (inv.set hj hjn) hfree' (ready_mono hr (Ne.symm hji)) h3.1 h3.2.1 ?_⟩) h2
        rw [Array.setIfInBounds_comm _ _ hji]
        exact h3.2.2

/-- The operations that only read, one behind the other. -/
def wpTake (P : Program) (ops : Array Oper) (S : World → Prop) (Lq : Act → Prop) : List Oper → Act → Prop
  | [], a => Lq a
  | o :: l, a => ∃ v, YieldsIf P ops S o v a ∧ wpTake P ops S Lq l (a.put o.dst v)

/-- These operations, by their numbers. -/
def pick (l : List Oper) (qs : List Nat) : List Oper := qs.filterMap fun i => l[i]?
/-- The operations that touch memory, in the one row that is left; S behind each. -/
def wpMem (P : Program) (ops : Array Oper) (Q : Exit → Act → World → Prop) (S : World → Prop) (Lw : Act → World → Prop) : List Nat → Act → World → Prop
  | [], a, w => Lw a w
  | m :: ms, a, w => wpOp P ops Q m (fun a' w' => S w' ∧ wpMem P ops Q S Lw ms a' w') a w
/-- May they be taken so? -/
def memB (md : Region.Mode) (ops : Array Oper) (n : Nat) : List Nat → Array Bool → Bool
  | [], listed => Region.seqB md ops (ops.size - n) n listed
  | m :: ms, listed => decide (m < n) && decide (Region.ready md ops listed = [m]) && memB md ops n ms (listed.setIfInBounds m true)
def takeB (md : Region.Mode) (ops : Array Oper) (n : Nat) (ms : List Nat) : List Nat → Array Bool → Bool
  | [], listed => memB md ops n ms listed
  | q :: qs, listed => decide (q < n) && (Region.ready md ops listed).contains q && Region.free md ops listed q && takeB md ops n ms qs (listed.setIfInBounds q true)

theorem headH_mem {n : Nat} {L : Array Bool → Act → World → Prop} {Lw : Act → World → Prop}
    (hlast : ∀ listed a w, Region.seqB md ops (ops.size - n) n listed = true → Lw a w → L listed a w) :
    ∀ (ms : List Nat) (listed : Array Bool) (a : Act) (w : World), memB md ops n ms listed = true → wpMem P ops Q S Lw ms a w → HeadH P md ops Q S n L ms.length listed a w
  | [], listed, a, w, hB, h => hlast listed a w hB h
  | m :: ms, listed, a, w, hB, h => by
    simp only [memB, Bool.and_eq_true, decide_eq_true_eq] at hB
    refine ⟨fun h0 => (by rw [hB.1.2] at h0; cases h0), fun i hi => ?_⟩
    rw [hB.1.2] at hi
    obtain rfl : i = m := by simpa using hi
    exact ⟨hB.1.1, wpOp_mono (fun a' w' h' => ⟨h'.1, headH_mem hlast ms _ a' w' hB.2 h'.2⟩) h⟩

theorem headH_take {l : List Oper} {n : Nat} {ms : List Nat} {L : Array Bool → Act → World → Prop} {Lw : Act → World → Prop} (hsel : Region.noSelect l.toArray = true) (hQ : ∀ c (a : Act) d v w, Q (.panic c) (a.put d v) w → Q (.panic c) a w)
    (hs : Region.sinkB md l.toArray n = true) (hc : Region.chainB md l.toArray n = true) (hn : n < l.toArray.size)
    (hdone : ∀ listed a w, L listed a w → ∀ j ∈ Region.ready md l.toArray listed, n ≤ j)
    (hlast : ∀ listed a w, Region.seqB md l.toArray (l.toArray.size - n) n listed = true → Lw a w → L listed a w) :
    ∀ (qs : List Nat) (listed : Array Bool) (a : Act) (w : World), HeadInv md l.toArray n listed → takeB md l.toArray n ms qs listed = true → S w →
    wpTake P l.toArray S (fun a' => wpMem P l.toArray Q S Lw ms a' w) (pick l qs) a →
    HeadH P md l.toArray Q S n L (qs.length + ms.length) listed a w
  | [], listed, a, w, inv, hB, hS, h => by
    rw [List.length_nil, Nat.zero_add]
    exact headH_mem hlast ms listed a w hB h
  | q :: qs, listed, a, w, inv, hB, hS, h => by
    simp only [takeB, Bool.and_eq_true, decide_eq_true_eq] at hB
    obtain ⟨⟨⟨hqn, hr⟩, hf⟩, hB'⟩ := hB
    have hql : q < l.length := by have : n < l.length := by simpa using hn
                                  omega
    have h0 : l.toArray[q]? = some l[q] := by simp [hql]
    have hr' : q ∈ Region.ready md l.toArray listed := by simpa using hr
    have hp : pick l (q :: qs) = l[q] :: pick l qs := by
      simp [pick, List.getElem?_eq_getElem hql]
    rw [hp] at h
    obtain ⟨v, hy, hK⟩ := h
    rw [show (q :: qs).length + ms.length = (qs.length + ms.length) + 1 by simp only [List.length_cons]; omega]
    exact headH_first h0 (Region.noSelect_spec hsel) (fun c a w => hQ c a _ _ w) hs hc hn hqn hdone (qs.length + ms.length) listed a w inv (Region.free_spec h0 hf) hr' hy hS
      (headH_take hsel hQ hs hc hn hdone hlast qs _ _ w (inv.set hr' hqn) hB' hS hK)

def regTB (md : Region.Mode) (ops : Array Oper) (n : Nat) (qs ms : List Nat) : Bool :=
  Region.noSelect ops && decide (n < ops.size) && Region.sinkB md ops n && Region.chainB md ops n && decide (qs.length + ms.length = n) && takeB md ops n ms qs (Array.replicate ops.size false)

/-- **READS FIRST, THEN WHAT TOUCHES MEMORY, THEN A TAIL IN ONE ROW.** -/
theorem wp_region_take {id : Nat} {a : Act} {w : World} {l : List Oper} (S : World → Prop) (qs ms : List Nat) (n : Nat) (hm : P.follows .mixedOrders = true) (hB : regTB .any l.toArray n qs ms = true)
    (hQ : ∀ c (a : Act) d v w, Q (.panic c) (a.put d v) w → Q (.panic c) a w) (hS : S w.drew)
    (h : wpTake P l.toArray S (fun a' => wpMem P l.toArray Q S (fun a'' w'' => wpList P l.toArray Q (l.drop n) a'' w'') ms a' w.drew) (pick l qs) a) : (Code.region id l.toArray true).wp P Q a w := by
  simp only [regTB, Bool.and_eq_true, decide_eq_true_eq] at hB
  obtain ⟨⟨⟨⟨⟨hsel, hn⟩, hs⟩, hc⟩, hlen⟩, hlex⟩ := hB
  have hn' : n < l.length := by simpa using hn
  have hdl : (l.drop n).length = l.toArray.size - n := by simp
  have inv0 : HeadInv .any l.toArray n (Array.replicate l.toArray.size false) :=
    ⟨by simp, fun j oj _ hl => (by rw [getD_replicate_false] at hl; cases hl), fun t _ ht => getD_in (by simpa using ht) (getD_replicate_false _ _)⟩
  have H := headH_take (P := P) (md := .any) (Q := Q) (S := S) (n := n) (ms := ms) (L := fun listed a w => Region.seqB .any l.toArray (l.toArray.size - n) n listed = true ∧ wpList P l.toArray Q (l.drop n) a w)
    hsel hQ hs hc hn (fun listed a w hL => seqB_ready hL.1) (fun listed a w h1 h2 => ⟨h1, h2⟩) qs _ a _ inv0 hlex hS h
  refine wp_region_any hm ?_
  have := headH_any (g := l.toArray.size - n) (fun listed a' w' hL => by
    have := wpAny_of_seq (md := .any) (Q' := Q) (l.drop n) n listed a' w' (fun j => by simp [List.getElem?_drop]) (by rw [hdl]; exact hL.1) hL.2
    rwa [hdl] at this) _ _ _ _ H
  rw [hlen, show n + (l.toArray.size - n) = l.toArray.size by omega] at this
  exact this

theorem wpMem_nil {Lw : Act → World → Prop} {a : Act} {w : World} (h : Lw a w) : wpMem P ops Q S Lw [] a w := h
theorem wpTake_nil {Lq : Act → Prop} {a : Act} (h : Lq a) : wpTake P ops S Lq [] a := h
theorem wpTake_step {Lq : Act → Prop} {a : Act} {d : Nat} {op : Op} {ty : TypeId} {pos : String} {after : Array Edge} {l : List Oper} {v : Value}
    (hv : ∀ w, S w → (execOp a.eval ⟨some d, op, ty, pos, after, none⟩).run P w = .ok (.value v) w) (h : wpTake P ops S Lq l ⟨a.tmps.setIfInBounds d v, a.defers⟩) :
    wpTake P ops S Lq (⟨some d, op, ty, pos, after, none⟩ :: l) a := ⟨v, .inl ⟨rfl, hv⟩, h⟩
/-- A whole array, from a block that all these worlds hold. -/
theorem wpTake_row {Lq : Act → Prop} {a : Act} {d : Nat} {ty ot : TypeId} {x : Operand} {pos : String} {after : Array Edge} {l : List Oper} (g : Nat) (cs : Array Value) (t : TypeId)
    (hx : a.eval x = .pointer (some ⟨g, 0, none⟩)) (hw : ∀ w, S w → Blk w g t cs) {ds : TypeDesc} (hu : P.underlying ty = some ds) (hd : (match ds with | .struct _ | .array _ _ => true | _ => false) = true) (hi : (P.info? ty).map (·.size) = some cs.size)
    (h : wpTake P ops S Lq l ⟨a.tmps.setIfInBounds d (.agg cs), a.defers⟩) : wpTake P ops S Lq (⟨some d, .load ty x, ot, pos, after, none⟩ :: l) a := by
  refine wpTake_step (fun w hS => ?_) h
  unfold execOp
  simp only [hx, Instr.loadAt, Instr.sureAddr, Sem.run_bind, Sem.run_pure, Result.andThen_ok, run_loadVar_row w g t ty cs (0, 0) ds (hw w hS) hu hd hi]
/-- A struct that is built. -/
theorem wpTake_build {Lq : Act → Prop} {a : Act} {d : Nat} {ty ot : TypeId} {parts : Array (Nat × Operand)} {pos : String} {after : Array Edge} {l : List Oper} (vals : Array (Nat × Value)) (v : Value)
    (hx : (parts.map fun (i, x) => (i, a.eval x)) = vals) (hr : ∀ w, (Instr.build ty vals).run P w = .ok v w)
    (h : wpTake P ops S Lq l ⟨a.tmps.setIfInBounds d v, a.defers⟩) : wpTake P ops S Lq (⟨some d, .build ty parts, ot, pos, after, none⟩ :: l) a := by
  refine wpTake_step (fun w hS => ?_) h
  unfold execOp
  simp only [hx, hr w, Sem.run_bind, Sem.run_pure, Result.andThen_ok]
/-- A slice literal. -/
theorem wpOp_buildS {n : Nat} {K : Act → World → Prop} {a : Act} {w w' : World} {d : Nat} {ty ot : TypeId} {len : Nat} {parts : Array (Nat × Operand)} {pos : String} {after : Array Edge} (vals : Array (Nat × Value)) (v : Value)
    (hn : ops[n]? = some ⟨some d, .buildSlice ty len parts, ot, pos, after, none⟩) (hx : (parts.map fun (i, x) => (i, a.eval x)) = vals) (hr : (Instr.buildSlice ty len vals).run P w = .ok v w')
    (h : K ⟨a.tmps.setIfInBounds d v, a.defers⟩ w') : wpOp P ops Q n K a w := by
  unfold wpOp
  simp only [hn]
  rw [if_pos (show Region.wanted ⟨some d, .buildSlice ty len parts, ot, pos, after, none⟩ (yielded ops a.tmps) = true from rfl)]
  refine .inl ?_
  unfold Oper.wp execOp
  simp only [hx, hr, Sem.run_bind, Sem.run_pure, Result.andThen_ok, Oper.upon]
  exact h
/-- The append of whatever source onto an own row. -/
theorem wpOp_app {n0 : Nat} {K : Act → World → Prop} {a : Act} {w : World} {d : Nat} {t tx ot : TypeId} {s x : Operand} {pos : String} {after : Array Edge}
    (hn : ops[n0]? = some ⟨some d, .call { callee := .builtin .append, args := #[s, x], argTypes := #[t, tx] }, ot, pos, after, none⟩)
    (base e : TypeId) (i : TypeInfo) (z : Value) (size bytes : Nat) (ht : P.underlying t = some (.slice e)) (hi : P.info? e = some i) (hz : i.zero = some z)
    (hsize : i.size = size) (hby : i.bytes = bytes) (hzs : z.cells.size = size)
    (v : Value) (n : Nat) (xs : List Value) (hs : a.eval s = v) (hown : w.ownsRow base e size v n xs)
    (xv : Value) (m : Nat) (news : List Value) (hx : a.eval x = xv) (hsrc : Src P size tx xv m news w)
    (h63 : n + m ≤ maxLen) (hbytes : (n + m) * bytes ≤ 140737488355328) (hbase : base ≤ w.heap.size)
    (h : ∀ p c w', w'.ownsRow base e size (.slice p (n + m) c) (n + m) (xs ++ news) → w.grownBy w' v.ownBlock → ((Value.slice p (n + m) c).ownBlock = v.ownBlock ∨ (Value.slice p (n + m) c).ownBlock = some w.heap.size) → K ⟨a.tmps.setIfInBounds d (.slice p (n + m) c), a.defers⟩ w') : wpOp P ops Q n0 K a w := by
  unfold wpOp
  simp only [hn]
  rw [if_pos (show Region.wanted ⟨some d, .call { callee := .builtin .append, args := #[s, x], argTypes := #[t, tx] }, ot, pos, after, none⟩ (yielded ops a.tmps) = true from rfl)]
  refine .inl ?_
  obtain ⟨v', w', hr, h2, h3, h4, h5⟩ := run_append_src_own (P := P) w base t tx ot e i z size bytes ht hi hz hsize hby hzs v n xs hown xv m news hsrc h63 hbytes hbase
  obtain ⟨p, c, rfl⟩ := row_slice h2
  unfold Oper.wp execOp
  simp only [resolve, invoke, builtin, Sem.run_bind, Sem.run_pure, Result.andThen_ok, List.map_toArray, List.map_cons, List.map_nil, hs, hx, hr, Oper.upon]
  exact h p c w' h2 h3 h4
end
end Go.Proofs.YtmhbkilpllgchaaGreatDoor
