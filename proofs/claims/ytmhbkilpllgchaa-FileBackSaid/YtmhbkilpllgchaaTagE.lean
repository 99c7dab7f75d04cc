/- A tag's digest, whatever the tag and the parts, by the program and by the reference; awake of law 2. -/
import Derived.Test.YtmhbkilpllgchaaTagC
import Derived.Test.YtmhbkilpllgchaaLend
namespace Go.Proofs.Ytmhbkilpllgchaa
open Go.RowKit BigFrame
set_option linter.unusedVariables false
set_option linter.unusedSimpArgs false

def tagOk (t : Int) (ss : List ByteArray) : Bool := decide (0 ≤ t) && decide (t ≤ 4) && decide (total ss ≤ 65536)
def tagH (t : Int) (ss : List ByteArray) : List UInt8 := if tagOk t ss then sha (tagL t.toNat ss) else List.replicate 32 0
def tagE (t : Int) (ss : List ByteArray) : Int := if tagOk t ss then 0 else 200
theorem tagH_length (t : Int) (ss : List ByteArray) : (tagH t ss).length = 32 := by
  unfold tagH; split
  · exact sha_length _
  · rw [List.length_replicate]
theorem z32_cells : z32 = bcells (List.replicate 32 0) := by kernel_rfl

def tagT (t : Int) (ss : List ByteArray) : Value := .tuple #[.agg (bcells (tagH t ss)), .int .i64 (tagE t ss)]
theorem tagT_no {t : Int} {ss : List ByteArray} (h : tagOk t ss = false) : tagT t ss = tagNo := by
  rw [tagT, tagH, tagE, h, tagNo, z32_cells]; rfl
theorem tagT_yes {t : Nat} {ss : List ByteArray} (ht : t ≤ 4) (h : total ss ≤ 65536) : tagT (t : Int) ss = tagYes t ss := by
  have : tagOk (t : Int) ss = true := by
    rw [tagOk, decide_eq_true (by omega), decide_eq_true (by omega), decide_eq_true h]; rfl
  rw [tagT, tagH, tagE, this, tagYes]; rfl

section
variable (t : Int) (pa : Option Addr) (ss : List ByteArray) (c : Nat) (w : World) (hn : ss.length * 16 ≤ 140737488351232) (hx : Strs w pa ss) (hz : ∀ j, j < ss.length → (ss.getD j ByteArray.empty).size ≤ 140737488351232)
include hn hx hz
/-- **tag.Sum.** -/
theorem tag_any : Calls Try.prog 41 #[.int .i64 t, .slice pa ss.length c] w fun e w' => e = .returned (tagT t ss) ∧ Below w.heap.size w w' := by
  by_cases h : t < 0 ∨ 4 < t
  · rw [tagT_no (by rw [tagOk]; rcases h with h | h; · rw [decide_eq_false (by omega)]; rfl
                    · rw [decide_eq_false (p := t ≤ 4) (by omega), Bool.and_false]; rfl)]
    exact tsum_tag t pa ss.length c w h
  · by_cases h2 : total ss ≤ 65536
    · obtain ⟨m, rfl⟩ : ∃ m : Nat, t = m := ⟨t.toNat, by omega⟩
      rw [tagT_yes (by omega) h2]
      exact tsum_ok m pa ss c w (by omega) hn hx h2
    · rw [tagT_no (by rw [tagOk, decide_eq_false h2, Bool.and_false])]
      exact tsum_long t pa ss c w (by omega) (by omega) hn hx hz (by omega)
/-- The reference's Tag. -/
theorem rtag_all : Calls Try.prog 42 #[.int .i64 t, .slice pa ss.length c] w fun e w' => e = .returned (tagT t ss) ∧ Below w.heap.size w w' := by
  by_cases h : t < 0 ∨ 4 < t
  · rw [tagT_no (by rw [tagOk]; rcases h with h | h; · rw [decide_eq_false (by omega)]; rfl
                    · rw [decide_eq_false (p := t ≤ 4) (by omega), Bool.and_false]; rfl)]
    exact rtag_tag t pa ss.length c w h
  · obtain ⟨m, rfl⟩ : ∃ m : Nat, t = m := ⟨t.toNat, by omega⟩
    have := rtag_any m pa ss c w (by omega) hn hx hz
    by_cases h2 : total ss ≤ 65536
    · rw [tagV, if_pos h2] at this
      rw [tagT_yes (by omega) h2]
      exact this
    · rw [tagV, if_neg h2] at this
      rw [tagT_no (by rw [tagOk, decide_eq_false h2, Bool.and_false])]
      exact this
end

/-- Texts in a block of their own. -/
theorem strs_new {w : World} {g : Nat} (ss : List ByteArray) (hb : Blk w g 9 (ss.map SV).toArray) : Strs w (some ⟨g, 0, none⟩) ss := by
  refine ⟨(fun e => by cases e), fun a e j hj => ?_⟩
  injection e with e
  subst e
  have e : ((⟨g, 0, none⟩ : Addr).add j) = ⟨g, j, none⟩ := by rw [Addr.add_mid, Nat.zero_add]
  rw [e]
  refine ⟨hb.lt, ?_⟩
  rw [hb.cell, List.getElem?_toArray, List.getElem?_map, List.getElem?_eq_getElem hj, List.getD, List.getElem?_eq_getElem hj]
  rfl

set_option maxRecDepth 100000 in
set_option maxHeartbeats 2000000 in
theorem awake2_any (w : World) : Calls Try.prog 44 #[] w fun e w' => e = .returned (.bool true) ∧ Below w.heap.size w w' := by
  obtain ⟨H, eH⟩ : ∃ H, H = tagH 0 [⟨#[97, 98]⟩, ⟨#[]⟩] := ⟨_, rfl⟩
  have hHl : H.length = 32 := by rw [eH, tagH_length]
  have hHs : H = sha (⟨#[0, 0, 0, 0, 2, 97, 98, 0, 0, 0, 0]⟩ : ByteArray).data.toList := by
    have e1 : tagOk 0 [⟨#[97, 98]⟩, ⟨#[]⟩] = true := by decide +kernel
    have e2 : tagL (0 : Int).toNat [⟨#[97, 98]⟩, ⟨#[]⟩] = (⟨#[0, 0, 0, 0, 2, 97, 98, 0, 0, 0, 0]⟩ : ByteArray).data.toList := by decide +kernel
    rw [eH, tagH, e1, if_pos rfl, e2]
  have e3 : tagE 0 [⟨#[97, 98]⟩, ⟨#[]⟩] = 0 := by decide +kernel
  obtain ⟨H2, eH2⟩ : ∃ H2, H2 = tagH (-1) [⟨#[97]⟩] := ⟨_, rfl⟩
  have hH2l : H2.length = 32 := by rw [eH2, tagH_length]
  have e4 : tagE (-1) [⟨#[97]⟩] = 200 := by decide +kernel
  have hT1 : tagT 0 [⟨#[97, 98]⟩, ⟨#[]⟩] = .tuple #[.agg (bcells H), .int .i64 0] := by rw [tagT, e3, eH]
  have hT2 : tagT (-1) [⟨#[97]⟩] = .tuple #[.agg (bcells H2), .int .i64 200] := by rw [tagT, e4, eH2]
  have HH := Lib.hid (And.intro eH (And.intro hHl (And.intro hHs (And.intro eH2 hH2l))))
  have c1 : ∀ w : World, Calls Try.prog 41 #[.int .i64 0, .slice (some ⟨w.heap.size, 0, none⟩) 2 2] (w.alloc (.cells #[.string ⟨#[97, 98]⟩, .string ⟨#[]⟩] 9)) fun e w' => e = .returned (.tuple #[.agg (bcells H), .int .i64 0]) ∧ Below w.heap.size w w' := fun w => by
    have := tag_any 0 (some ⟨w.heap.size, 0, none⟩) [⟨#[97, 98]⟩, ⟨#[]⟩] 2 (w.alloc (.cells #[.string ⟨#[97, 98]⟩, .string ⟨#[]⟩] 9)) (by decide) (strs_new _ (Blk.new w 9 _)) (by decide)
    rw [hT1] at this
    exact this.mono fun e w' h => ⟨h.1, ((Below.refl _ _).alloc (Nat.le_refl _) _).trans (h.2.mono (by simp))⟩
  have c2 : ∀ (w : World) (N : Nat), N = w.heap.size → Calls Try.prog 41 #[.int .i64 (-1), .slice (some ⟨N, 0, none⟩) 1 1] (w.alloc (.cells #[.string ⟨#[97]⟩] 9)) fun e w' => e = .returned (.tuple #[.agg (bcells H2), .int .i64 200]) ∧ Below w.heap.size w w' := fun w N hN => by
    subst hN
    have := tag_any (-1) (some ⟨w.heap.size, 0, none⟩) [⟨#[97]⟩] 1 (w.alloc (.cells #[.string ⟨#[97]⟩] 9)) (by decide) (strs_new _ (Blk.new w 9 _)) (by decide)
    rw [hT2] at this
    exact this.mono fun e w' h => ⟨h.1, ((Below.refl _ _).alloc (Nat.le_refl _) _).trans (h.2.mono (by simp))⟩
  clear eH hHl hHs eH2 hH2l e3 e4 hT1 hT2
  have C := Lib.hid (And.intro c1 c2)
  clear c1 c2
  go_enter Try.func44, Try.ntmps44
  go_wp2_with fail
  refine (C.out.1 w).mono ?_
  rintro e w1 ⟨rfl, hb1⟩
  have hs1 := hb1.size
  have hA0 : Blk (w1.alloc (.cells z32 29)) w1.heap.size 29 z32 := Blk.new _ _ _
  have hbA := hb1.alloc hs1 (.cells z32 29)
  go_wp2_with (refine wpList_alN (d := 1) z32 zero29 w1.heap.size rfl (wpList_st_row w1.heap.size (bcells H) rfl rfl 29 z32 hA0 (by rw [size29, bcells_size, HH.out.2.1]) (by rw [bcells_size, HH.out.2.1]; rfl) (bcells_one _) ?_); simp only [List.setIfInBounds_toArray, List.set_cons_succ, List.set_cons_zero])
  have hA1 : Blk ((w1.alloc (.cells z32 29)).setRow w1.heap.size (bcells H)) w1.heap.size 29 (bcells H) := hA0.row _
  have hb2 : Below w.heap.size w ((w1.alloc (.cells z32 29)).setRow w1.heap.size (bcells H)) := below_setRow hbA hs1 _
  have hs2 : ((w1.alloc (.cells z32 29)).setRow w1.heap.size (bcells H)).heap.size = w1.heap.size + 1 := by simp
  obtain ⟨w2, e2⟩ : ∃ w2, w2 = (w1.alloc (.cells z32 29)).setRow w1.heap.size (bcells H) := ⟨_, rfl⟩
  rw [← e2] at hA1 hb2 hs2 ⊢
  obtain ⟨A, eA⟩ : ∃ A, A = w1.heap.size := ⟨_, rfl⟩
  rw [← eA] at hA1 hs1 hs2 ⊢
  clear e2 eA hA0 hbA hb1
  have hAl := hA1.lt
  refine (C.out.2 w2 _ hs2.symm).mono ?_
  rintro e w3 ⟨rfl, hb3⟩
  have hA3 := hA1.below hb3 hAl
  have hbw3 := hb2.trans (hb3.mono hb2.size)
  have hs3 := hb3.size
  have hD0 : Blk (w3.alloc (.cells z32 29)) w3.heap.size 29 z32 := Blk.new _ _ _
  go_wp2_with (refine wpList_alN (d := 3) z32 zero29 w3.heap.size rfl (wpList_st_row w3.heap.size (bcells H2) rfl rfl 29 z32 hD0 (by rw [size29, bcells_size, HH.out.2.2.2.2]) (by rw [bcells_size, HH.out.2.2.2.2]; rfl) (bcells_one _) ?_); simp only [List.setIfInBounds_toArray, List.set_cons_succ, List.set_cons_zero])
  have hA5 : Blk ((w3.alloc (.cells z32 29)).setRow w3.heap.size (bcells H2)) A 29 (bcells H) := (hA3.alloc _).rowFar (by omega) _
  have hb5 : Below w.heap.size w ((w3.alloc (.cells z32 29)).setRow w3.heap.size (bcells H2)) := below_setRow (hbw3.alloc hbw3.size _) hbw3.size _
  obtain ⟨w5, e5⟩ : ∃ w5, w5 = (w3.alloc (.cells z32 29)).setRow w3.heap.size (bcells H2) := ⟨_, rfl⟩
  rw [← e5] at hA5 hb5 ⊢
  clear e5 hD0 hA3 hA1 hbw3 hb2 hb3 hs2 hs3
  have hA5l := hA5.lt
  have heq : ∀ w', (binOp .eql 29 (.agg (bcells H)) (.agg (bcells H))).run Try.prog w' = .ok (.bool true) w' := fun w' => by rw [eql_bytes w' H H HH.out.2.1 HH.out.2.1]; simp
  have heq2 : ∀ w', (Op.equalIn 10000 29 (.agg (bcells H)) (.agg (bcells H))).run Try.prog w' = .ok true w' := fun w' => by rw [run_equal_bytes w' H H HH.out.2.1 HH.out.2.1]; simp
  have hsha : ∀ x, Calls Try.prog 35 #[.string ⟨#[0, 0, 0, 0, 2, 97, 98, 0, 0, 0, 0]⟩] (later w5 x) fun e w'' => e = .returned (.agg (bcells H)) ∧ ∃ k, w'' = later w5 k := fun x => by
    rw [HH.out.2.2.1]
    exact later_call (refsha_any _ _ (by decide))
  have hnum : ∀ x, Calls Try.prog 39 #[.int .i64 0] (later w5 x) fun e w'' => e = .returned (.int .i64 0) ∧ ∃ k, w'' = later w5 k := fun x => later_call_same (num_any 0 _)
  have hnum2 : ∀ x, Calls Try.prog 39 #[.int .i64 200] (later w5 x) fun e w'' => e = .returned (.int .i64 200) ∧ ∃ k, w'' = later w5 k := fun x => later_call_same (num_any 200 _)
  refine wp_region_later (by kernel_rfl) (by kernel_rfl) ?_
  repeat (first
    | (refine wpQuiet_ld_g (d := 15) A 0 (bcells H).toList rfl rfl (by rintro _ ⟨x, rfl⟩; exact range_of_blk (hA5.below (later_below w5 x) hA5l)) Try.underlying29 rfl (by rw [size29, Array.length_toList, bcells_size, HH.out.2.1]) ?_; simp only [List.setIfInBounds_toArray, List.set_cons_succ, List.set_cons_zero, Array.toArray_toList])
    | (go_big_quiet_step ((first | (go_at_call 35; exact hsha _) | (go_at_call 39; first | exact hnum _ | exact hnum2 _)))))
  refine wpQuiet_nil ?_
  rintro _ ⟨x, rfl⟩
  go_wp2
  go_ret
  exact ⟨rfl, hb5.trans ((later_below w5 x).mono hb5.size)⟩
end Go.Proofs.Ytmhbkilpllgchaa
