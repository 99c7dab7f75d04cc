/- Lists of texts: compared, copied, lent with marked room behind them, held against what they were. -/
import Derived.Test.YtmhbkilpllgchaaTagD
import Derived.Deep.QuietTactic
import Derived.BigQuiet
import Derived.WalkLawsBesides
import Derived.Lib.Strings
namespace Go.Proofs.Ytmhbkilpllgchaa
open Go.RowKit BigFrame
set_option linter.unusedVariables false
set_option linter.unusedSimpArgs false

theorem info9 : (Try.prog.info? 9).map (fun i => (i.zero, i.size, i.bytes)) = some (some (.string ⟨#[]⟩), 1, 16) := by kernel_rfl

def SV (s : ByteArray) : Value := .string s

theorem Strs.drewN {w : World} {pa : Option Addr} {ss : List ByteArray} (h : Strs w pa ss) (m : Nat) : Strs (w.drewN m) pa ss := h

theorem str_beq (x y : ByteArray) (h : x ≠ y) : (x.toList == y.toList) = false := by
  rw [beq_eq_false_iff_ne, Lib.toList_data, Lib.toList_data]
  intro e
  apply h
  cases x; cases y
  simp only [ByteArray.mk.injEq]
  exact Array.toList_inj.1 e

set_option maxRecDepth 100000 in
set_option maxHeartbeats 1000000 in
/-- Are two lists of texts the same? -/
theorem same_any (pa pb : Option Addr) (sa sb : List ByteArray) (c d : Nat) (w : World) (ha : Strs w pa sa) (hb : Strs w pb sb) (hna : sa.length * 16 ≤ 140737488355328) :
    Calls Try.prog 48 #[.slice pa sa.length c, .slice pb sb.length d] w fun e w' => e = .returned (.bool (decide (sa = sb))) ∧ ∃ m, w' = w.drewN m := by
  obtain ⟨n, en⟩ : ∃ n, n = sa.length := ⟨_, rfl⟩
  obtain ⟨nb, enb⟩ : ∃ nb, nb = sb.length := ⟨_, rfl⟩
  have EN := Lib.hid (And.intro en enb)
  have hn2 : n ≤ 8796093022208 := by omega
  rw [← en, ← enb]
  clear en enb hna
  by_cases hl : n = nb
  · subst hl
    go_enter Try.func48, Try.ntmps48
    go_wp2
    go_loopw [5] (fun i wr => ∃ k m : Nat, i = .int .i64 (k : Int) ∧ k ≤ n ∧ wr = w.drewN m ∧ Hid (∀ j, j < k → sa.getD j ByteArray.empty = sb.getD j ByteArray.empty)) (fun i _ => n - (intOf i).toNat)
    case atStart => exact ⟨0, 0, rfl, by omega, rfl, Lib.hid (fun j hj => by omega)⟩
    case round =>
      obtain ⟨k, m, rfl, hk, rfl, HA⟩ := hrel
      by_cases h1 : k < n
      · obtain ⟨a, rfl, hal, hac⟩ := ha.at (j := k) (by rw [← EN.out.1]; exact h1)
        obtain ⟨b, rfl, hbl, hbc⟩ := hb.at (j := k) (by rw [← EN.out.2]; exact h1)
        obtain ⟨x, ex⟩ : ∃ x, x = sa.getD k ByteArray.empty := ⟨_, rfl⟩
        obtain ⟨y, ey⟩ : ∃ y, y = sb.getD k ByteArray.empty := ⟨_, rfl⟩
        rw [← ex] at hac
        rw [← ey] at hbc
        have EX := Lib.hid (And.intro ex ey)
        clear ex ey
        by_cases hxy : x = y
        · subst hxy
          go_wp2
          go_quiet (fail)
          go_wp2
          go_roundw
          case rel => exact ⟨k + 1, _, by go_num, by omega, rfl, Lib.hid (fun j hj => by
            rcases Nat.lt_or_ge j k with h | h
            · exact HA.out j h
            · obtain rfl : j = k := by omega
              rw [← EX.out.1, ← EX.out.2])⟩
          case measure => simp [intOf]; omega
        · have hne := str_beq x y hxy
          have hf : decide (sa = sb) = false := by
            rw [decide_eq_false_iff_not]
            intro e
            apply hxy
            rw [EX.out.1, EX.out.2, e]
          have HF := Lib.hid hf
          clear hxy hf
          go_wp2
          go_quiet (fail)
          go_wp2
          go_ret
          first | exact ⟨by rw [HF.out]; rfl, _, rfl⟩ | exact ⟨by rw [HF.out]; rfl, _, World.drewN_drewN _ _ _⟩
      · have ht : decide (sa = sb) = true := by
          rw [decide_eq_true_iff]
          apply List.ext_getElem?
          intro j
          rcases Nat.lt_or_ge j n with h | h
          · have := HA.out j (by omega)
            rw [List.getD, List.getD] at this
            have e1 : j < sa.length := by rw [← EN.out.1]; exact h
            have e2 : j < sb.length := by rw [← EN.out.2]; exact h
            rw [List.getElem?_eq_getElem e1, List.getElem?_eq_getElem e2] at this ⊢
            simpa using this
          · rw [List.getElem?_eq_none (by rw [← EN.out.1]; exact h), List.getElem?_eq_none (by rw [← EN.out.2]; exact h)]
        have HT := Lib.hid ht
        clear ht
        go_wp2
        go_ret
        exact ⟨by rw [HT.out]; rfl, _, rfl⟩
  · have hf : decide (sa = sb) = false := by
      rw [decide_eq_false_iff_not]
      intro e
      apply hl
      rw [EN.out.1, EN.out.2, e]
    have HF := Lib.hid hf
    have hl2 : (!((n : Int) == (nb : Int))) = true := by
      have : ((n : Int) == (nb : Int)) = false := by rw [beq_eq_false_iff_ne]; omega
      rw [this]; rfl
    have hl3 : ((n : Int) == (nb : Int)) = false := by rw [beq_eq_false_iff_ne]; omega
    clear hf hl
    go_enter Try.func48, Try.ntmps48
    go_wp2
    go_ret
    exact ⟨by rw [HF.out]; rfl, 0, rfl⟩

def room : ByteArray := ⟨#[126, 114, 111, 111, 109]⟩
def behind : ByteArray := ⟨#[126, 98, 101, 104, 105, 110, 100]⟩

theorem SV_one (ss : List ByteArray) : ∀ u ∈ ss.map SV, u.oneCell' = true := fun u hu => by
  obtain ⟨s, _, rfl⟩ := List.mem_map.1 hu
  rfl
/-- A slice that reads as these strings, as the source of an append. -/
theorem src_strs {w : World} {pa : Option Addr} {ss : List ByteArray} (h : Strs w pa ss) (c : Nat) : Src Try.prog 1 23 (.slice pa ss.length c) ss.length (ss.map SV) w := by
  cases pa with
  | none =>
    have := h.1 rfl
    subst this
    exact Src.ofNil w Try.underlying23 c
  | some a =>
    refine Src.ofSlice w Try.underlying23 a ss.length c (ss.map SV) (by simp) (fun j u hu => ?_) (SV_one ss)
    have hj : j < ss.length := by
      have := (List.getElem?_eq_some_iff.1 hu).1
      simpa using this
    rw [List.getElem?_map, List.getElem?_eq_getElem hj] at hu
    rw [(h.2 a rfl j hj).2, ← hu, List.getD, List.getElem?_eq_getElem hj]
    rfl

set_option maxRecDepth 100000 in
set_option maxHeartbeats 1000000 in
/-- Texts in new memory. -/
theorem copy_any (pa : Option Addr) (ss : List ByteArray) (c : Nat) (w : World) (h : Strs w pa ss) (hn : ss.length * 16 ≤ 140737488351232) :
    Calls Try.prog 73 #[.slice pa ss.length c] w fun e w' => ∃ v, e = .returned v ∧ w'.ownsRow w.heap.size 9 1 v ss.length (ss.map SV) ∧ v ≠ .slice none 0 0 ∧ Below w.heap.size w w' := by
  obtain ⟨i0, hi0, hz0, hz1, hz2⟩ := info_parts info9
  have hB := Blk.new w 9 #[]
  have hR0 : (w.alloc (.cells #[] 9)).ownsRow w.heap.size 9 1 (.slice (some ⟨w.heap.size, 0, none⟩) 0 0) 0 [] := own_new (xs := []) hB (Nat.le_refl _) 0 rfl (by simp [maxLen])
  have hb0 : Below w.heap.size w (w.alloc (.cells #[] 9)) := (Below.refl _ _).alloc (Nat.le_refl _) _
  have hs := src_strs (h.below hb0) c
  have hsz : w.heap.size ≤ (w.alloc (.cells #[] 9)).heap.size := hb0.size
  obtain ⟨n, en⟩ : ∃ n, n = ss.length := ⟨_, rfl⟩
  rw [← en] at hn hs ⊢
  have EN := Lib.hid en
  have b1 : 0 + n ≤ maxLen := by simp only [maxLen]; omega
  have b2 : (0 + n) * 16 ≤ 140737488355328 := by omega
  clear en
  go_enter Try.func73, Try.ntmps73
  go_wp2_with (at_builtin; refine wpList_app _ w.heap.size 9 i0 (.string ⟨#[]⟩) 1 16 Try.underlying23 hi0 hz0 hz1 hz2 rfl (.slice (some ⟨w.heap.size, 0, none⟩) 0 0) 0 [] rfl hR0 (.slice pa n c) n (ss.map SV) rfl hs b1 b2 hsz ?_; intro v5 w5 hR5 hg5 _ hnil; obtain ⟨p5, c5, rfl⟩ := row_slice hR5; simp only [List.setIfInBounds_toArray, List.set_cons_succ, List.set_cons_zero])
  go_ret
  rw [Nat.zero_add, List.nil_append] at hR5
  exact ⟨.slice p5 n c5, by first | rfl | (rw [Nat.zero_add]; rfl) | simp, hR5, fun e => by
    have e2 : (Value.slice p5 (0 + n) c5) = .slice none 0 0 := by rw [Nat.zero_add]; exact e
    have := hnil.1 e2
    have h3 := this.1
    simp at h3, hb0.grown hg5 hsz (fun g e => (hR0.lt g e).1)⟩

/-- What is lent: the texts, in a place with marked room behind them. -/
def Lent (w : World) (base g cap : Nat) (ss : List ByteArray) : Prop := w.ownsRow base 9 1 (.slice (some ⟨g, 0, none⟩) (ss.length + 2) cap) (ss.length + 2) ((ss ++ [room, behind]).map SV)
theorem Lent.lt {w : World} {base g cap : Nat} {ss : List ByteArray} (h : Lent w base g cap ss) : base ≤ g ∧ g < w.heap.size ∧ ss.length + 2 ≤ cap ∧ cap ≤ maxLen := by
  obtain ⟨g', cap', e, h1, h2, h3, h4⟩ := row_form h (by simp)
  simp only [Value.slice.injEq, Option.some.injEq, Addr.mk.injEq] at e
  obtain ⟨⟨rfl, -, -⟩, -, rfl⟩ := e
  exact ⟨h1, h2, h3, h4⟩
theorem Lent.cell {w : World} {base g cap : Nat} {ss : List ByteArray} (h : Lent w base g cap ss) (j : Nat) (hj : j < ss.length + 2) : w.cell? ⟨g, j, none⟩ = some (.string ((ss ++ [room, behind]).getD j ByteArray.empty)) := by
  have hj' : j < (ss ++ [room, behind]).length := by simpa using hj
  have := h.cells (g := g) rfl j (SV ((ss ++ [room, behind])[j])) (by rw [List.getElem?_map, List.getElem?_eq_getElem hj']; rfl)
  rw [List.getD, List.getElem?_eq_getElem hj']
  have e : ((⟨g, 0, none⟩ : Addr).add j) = ⟨g, j, none⟩ := by rw [Addr.add_mid, Nat.zero_add]
  rw [e] at this
  exact this
theorem Lent.strs {w : World} {base g cap : Nat} {ss : List ByteArray} (h : Lent w base g cap ss) : Strs w (some ⟨g, 0, none⟩) ss := by
  refine ⟨(fun e => by cases e), fun a e j hj => ?_⟩
  injection e with e
  subst e
  have e : ((⟨g, 0, none⟩ : Addr).add j) = ⟨g, j, none⟩ := by rw [Addr.add_mid, Nat.zero_add]
  rw [e]
  refine ⟨h.lt.2.1, ?_⟩
  rw [h.cell j (by omega)]
  simp [List.getD, List.getElem?_append_left hj]
theorem Lent.below {w w' : World} {base g cap : Nat} {ss : List ByteArray} (h : Lent w base g cap ss) (hb : Below w.heap.size w w') : Lent w' base g cap ss :=
  World.ownsRow.kept h (grown_below hb (Nat.le_refl _) none) (by simp [Value.ownBlock])

set_option maxRecDepth 100000 in
set_option maxHeartbeats 1000000 in
/-- Texts lent. -/
theorem lend_any (pa : Option Addr) (ss : List ByteArray) (c : Nat) (w : World) (h : Strs w pa ss) (hn : ss.length * 16 ≤ 140737488351232) :
    Calls Try.prog 40 #[.slice pa ss.length c] w fun e w' => ∃ g cap, e = .returned (.slice (some ⟨g, 0, none⟩) ss.length cap) ∧ Lent w' w.heap.size g cap ss ∧ Below w.heap.size w w' := by
  obtain ⟨i0, hi0, hz0, hz1, hz2⟩ := info_parts info9
  have hc := copy_any pa ss c w h hn
  obtain ⟨n, en⟩ : ∃ n, n = ss.length := ⟨_, rfl⟩
  obtain ⟨xs, exs⟩ : ∃ xs, xs = ss.map SV := ⟨_, rfl⟩
  rw [← en, ← exs] at hc
  have EN := Lib.hid (And.intro en exs)
  have b1 : n + 2 ≤ maxLen := by simp only [maxLen]; omega
  have b2 : (n + 2) * 16 ≤ 140737488355328 := by omega
  have b3 : (n : Int) ≤ 9223372036854775807 := by omega
  rw [← en]
  clear en exs hn
  go_enter Try.func40, Try.ntmps40
  go_wp2_with fail
  refine hc.mono ?_
  clear hc
  rintro e w1 ⟨v1, rfl, hR1, hne1, hb1⟩
  obtain ⟨g1, c1, rfl, hg1, hg2, hg3, hg4⟩ := row_form hR1 hne1
  have hb2 : Below w.heap.size w (w1.alloc (.cells #[.string room, .string behind] 9)) := hb1.alloc hb1.size _
  have hR2 : (w1.alloc (.cells #[.string room, .string behind] 9)).ownsRow w.heap.size 9 1 (.slice (some ⟨g1, 0, none⟩) n c1) n xs := hR1.kept (grown_of_below ((Below.refl _ _).alloc (Nat.le_refl _) _)) (by simp [Value.ownBlock])
  have hsrc : Src Try.prog 1 23 (.slice (some ⟨w1.heap.size, 0, none⟩) 2 2) 2 [.string room, .string behind] (w1.alloc (.cells #[.string room, .string behind] 9)) := by
    refine Src.ofSlice _ Try.underlying23 _ 2 2 _ rfl (fun j u hu => ?_) (fun u hu => by
      simp only [List.mem_cons, List.not_mem_nil, or_false] at hu
      rcases hu with rfl | rfl <;> rfl)
    rw [Addr.add_mid, Nat.zero_add, (Blk.new w1 9 #[.string room, .string behind]).cell]
    simpa using hu
  have hsz : w.heap.size ≤ (w1.alloc (.cells #[.string room, .string behind] 9)).heap.size := hb2.size
  unfold room behind at hb2 hR2 hsrc hsz
  go_wp2_with (at_builtin; refine wpList_app _ w.heap.size 9 i0 (.string ⟨#[]⟩) 1 16 Try.underlying23 hi0 hz0 hz1 hz2 rfl (.slice (some ⟨g1, 0, none⟩) n c1) n xs rfl hR2 (.slice (some ⟨w1.heap.size, 0, none⟩) 2 2) 2 _ rfl hsrc b1 b2 hsz ?_; intro v5 w5 hR5 hg5 _ hnil; obtain ⟨g5, c5, rfl, hh1, hh2, hh3, hh4⟩ := row_form hR5 (fun e => by have h2 := (hnil.1 e).2; cases h2); simp only [List.setIfInBounds_toArray, List.set_cons_succ, List.set_cons_zero])
  go_ret
  exact ⟨g5, c5, rfl, by unfold Lent; rw [← EN.out.1, List.map_append, ← EN.out.2]; exact hR5, hb2.grown hg5 hsz (fun g e => (hR2.lt g e).1)⟩

set_option maxRecDepth 100000 in
set_option maxHeartbeats 1000000 in
/-- What was lent is as it was, with what stands behind it. -/
theorem kept_any (pa : Option Addr) (ss : List ByteArray) (c base g cap : Nat) (w : World) (h : Lent w base g cap ss) (h2 : Strs w pa ss) (hn : ss.length * 16 ≤ 140737488351232) :
    Calls Try.prog 43 #[.slice (some ⟨g, 0, none⟩) ss.length cap, .slice pa ss.length c] w fun e w' => e = .returned (.bool true) ∧ ∃ m, w' = w.drewN m := by
  have hs := same_any (some ⟨g, 0, none⟩) pa ss ss cap c w h.strs h2 (by omega)
  have hlt := h.lt
  have hc0 := h.cell ss.length (by omega)
  have hc1 := h.cell (ss.length + 1) (by omega)
  have e0 : (ss ++ [room, behind]).getD ss.length ByteArray.empty = room := by simp [List.getD]
  have e1 : (ss ++ [room, behind]).getD (ss.length + 1) ByteArray.empty = behind := by simp [List.getD]
  rw [e0] at hc0
  rw [e1] at hc1
  rw [decide_eq_true rfl] at hs
  obtain ⟨n, en⟩ : ∃ n, n = ss.length := ⟨_, rfl⟩
  rw [← en] at hs hc0 hc1 hn hlt ⊢
  have EN := Lib.hid en
  have b1 : n + 2 ≤ cap := hlt.2.2.1
  have b2 : (n : Int) + 2 ≤ (cap : Int) := by omega
  have b3 : (cap : Int) ≤ 9223372036854775807 := by have := hlt.2.2.2; simp only [maxLen] at this; omega
  have b4 : (n : Int) ≤ 8796093022208 := by omega
  unfold room at hc0
  unfold behind at hc1
  clear en e0 e1 hlt hn h
  go_enter Try.func43, Try.ntmps43
  go_wp2_with fail
  refine hs.mono ?_
  clear hs
  rintro e _ ⟨rfl, m, rfl⟩
  go_wp2
  go_ret
  exact ⟨rfl, m, rfl⟩
end Go.Proofs.Ytmhbkilpllgchaa
