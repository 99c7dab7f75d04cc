/- strings.Cut at a slash; the iterator of what stands between slashes. -/
import Derived.Test.YtmhbkilpllgchaaPth
import Derived.Test.YtmhbkilpllgchaaRng
import Derived.Deep.QuietTactic
import Derived.BigQuiet
import Derived.RangeFuncBound
import Derived.RangeFuncCalls
import Derived.RangeFuncLeaves
import Derived.Shelf.Abstract
import Derived.Shelf.RegionOpen
import Derived.OwnWalkIn
import Derived.TacticsInMore
import Derived.LoopNIn
import Derived.LoopIn
namespace Go.Proofs.Ytmhbkilpllgchaa
open Go.RowKit
set_option linter.unusedVariables false
set_option linter.unusedSimpArgs false

theorem idx_lt (s : ByteArray) (o : Nat) (h : Lib.indexByte s.data.toList 47 = (o : Int)) : o < s.size := by
  have := (List.getElem?_eq_some_iff.1 (Lib.indexByte_some h).1).1
  simpa using this

set_option maxRecDepth 100000 in
set_option maxHeartbeats 1000000 in
theorem icut_yes (s : ByteArray) (o : Nat) (w : World) (hs : s.size ≤ 140737488351232) (h : Lib.indexByte s.data.toList 47 = (o : Int)) :
    Calls Try.prog 106 #[.string s, .string ⟨#[47]⟩] w fun e w' => e = .returned (.tuple #[.string (bs (s.data.toList.take o)), .string (bs (s.data.toList.drop (o + 1))), .bool true]) ∧ ∃ m, w' = w.drewN m := by
  have hlt := idx_lt s o h
  have hi := t_stringslite_Index_one s 47 w
  rw [h] at hi
  have e1 : s.extract 0 o = bs (s.data.toList.take o) := by
    rw [← bs_of (s.extract 0 o), ByteArray.data_extract, Array.toList_extract, List.extract_eq_take_drop]; simp
  have e2 : s.extract (o + 1) s.size = bs (s.data.toList.drop (o + 1)) := by
    rw [← bs_of (s.extract (o + 1) s.size), ByteArray.data_extract, Array.toList_extract, List.extract_eq_take_drop, List.take_of_length_le (by rw [List.length_drop]; exact Nat.le_refl _)]
  have hsl1 : ∀ w', (Instr.slice 9 (.string s) none (some (.int .i64 (o : Int))) none).run Try.prog w' = .ok (.string (bs (s.data.toList.take o))) w' := fun w' => by
    rw [run_slice_string_to_if w' 9 s .i64 (o : Int) Try.underlying9, if_pos (by omega), ← e1]; rfl
  have hsl2 : ∀ w', (Instr.slice 9 (.string s) (some (.int .i64 ((o : Int) + 1))) none none).run Try.prog w' = .ok (.string (bs (s.data.toList.drop (o + 1)))) w' := fun w' => by
    rw [run_slice_string_from_if w' 9 s .i64 ((o : Int) + 1) Try.underlying9, if_pos (by omega), ← e2, show ((o : Int) + 1).toNat = o + 1 by omega]
  obtain ⟨X, eX⟩ : ∃ X, X = bs (s.data.toList.take o) := ⟨_, rfl⟩
  obtain ⟨Y, eY⟩ : ∃ Y, Y = bs (s.data.toList.drop (o + 1)) := ⟨_, rfl⟩
  rw [← eX] at hsl1
  rw [← eY] at hsl2
  rw [← eX, ← eY]
  have hw : IntKind.i64.wrap ((o : Int) + 1) = (o : Int) + 1 := by rw [IntKind.wrap_i64]; omega
  have HI := Lib.hid (show Calls Try.prog 109 #[.string s, .string ⟨#[47]⟩] w fun e w' => e = .returned (.int .i64 (o : Int)) ∧ w = w' from hi.mono fun _ _ h => ⟨h.1, h.2.symm⟩)
  clear h hi e1 e2 eX eY
  go_enter Try.func106, Try.ntmps106
  go_wp2_with fail
  refine HI.out.mono ?_
  rintro e _ ⟨rfl, rfl⟩
  go_wp2
  go_quiet (fail)
  go_wp2
  go_ret3
  exact ⟨rfl, _, rfl⟩

set_option maxRecDepth 100000 in
set_option maxHeartbeats 1000000 in
theorem icut_no (s : ByteArray) (w : World) (h : Lib.indexByte s.data.toList 47 < 0) :
    Calls Try.prog 106 #[.string s, .string ⟨#[47]⟩] w fun e w' => e = .returned (.tuple #[.string s, .string ⟨#[]⟩, .bool false]) ∧ ∃ m, w' = w.drewN m := by
  have hge := Lib.indexByte_ge s.data.toList 47
  have h1 : Lib.indexByte s.data.toList 47 = -1 := by omega
  have hi := t_stringslite_Index_one s 47 w
  rw [h1] at hi
  have HI := Lib.hid (show Calls Try.prog 109 #[.string s, .string ⟨#[47]⟩] w fun e w' => e = .returned (.int .i64 (-1)) ∧ w = w' from hi.mono fun _ _ h => ⟨h.1, h.2.symm⟩)
  clear h hge h1 hi
  go_enter Try.func106, Try.ntmps106
  go_wp2_with fail
  refine HI.out.mono ?_
  rintro e _ ⟨rfl, rfl⟩
  go_wp2
  go_ret3
  exact ⟨rfl, 0, rfl⟩

/-- What strings.Cut at a slash answers. -/
def cutP (s : ByteArray) : ByteArray := if 0 ≤ Lib.indexByte s.data.toList 47 then bs (s.data.toList.take (Lib.indexByte s.data.toList 47).toNat) else s
def cutQ (s : ByteArray) : ByteArray := if 0 ≤ Lib.indexByte s.data.toList 47 then bs (s.data.toList.drop ((Lib.indexByte s.data.toList 47).toNat + 1)) else ⟨#[]⟩
def cutB (s : ByteArray) : Bool := decide (0 ≤ Lib.indexByte s.data.toList 47)
theorem icut_any (s : ByteArray) (w : World) (hs : s.size ≤ 140737488351232) :
    Calls Try.prog 106 #[.string s, .string ⟨#[47]⟩] w fun e w' => e = .returned (.tuple #[.string (cutP s), .string (cutQ s), .bool (cutB s)]) ∧ ∃ m, w' = w.drewN m := by
  by_cases h : 0 ≤ Lib.indexByte s.data.toList 47
  · obtain ⟨o, ho⟩ : ∃ o : Nat, Lib.indexByte s.data.toList 47 = o := ⟨(Lib.indexByte s.data.toList 47).toNat, by omega⟩
    rw [cutP, cutQ, cutB, if_pos h, if_pos h, decide_eq_true h, ho, Int.toNat_natCast]
    exact icut_yes s o w hs ho
  · rw [cutP, cutQ, cutB, if_neg h, if_neg h, decide_eq_false h]
    exact icut_no s w (by omega)

set_option maxRecDepth 100000 in
set_option maxHeartbeats 1000000 in
/-- strings.Cut at a slash. -/
theorem cut_any (s : ByteArray) (w : World) (hs : s.size ≤ 140737488351232) :
    Calls Try.prog 99 #[.string s, .string ⟨#[47]⟩] w fun e w' => e = .returned (.tuple #[.string (cutP s), .string (cutQ s), .bool (cutB s)]) ∧ ∃ m, w' = w.drewN m := by
  have hc := icut_any s w hs
  obtain ⟨X, eX⟩ : ∃ X, X = cutP s := ⟨_, rfl⟩
  obtain ⟨Y, eY⟩ : ∃ Y, Y = cutQ s := ⟨_, rfl⟩
  obtain ⟨b, eb⟩ : ∃ b, b = cutB s := ⟨_, rfl⟩
  rw [← eX, ← eY, ← eb] at hc ⊢
  have HC := Lib.hid hc
  clear eX eY eb hc
  go_enter Try.func99, Try.ntmps99
  go_wp2_with fail
  refine HC.out.mono ?_
  rintro e _ ⟨rfl, m, rfl⟩
  go_wp2
  go_ret3
  exact ⟨rfl, m, rfl⟩
theorem split_cut (s : ByteArray) : splitL s.data.toList = if cutB s then (cutP s).data.toList :: splitL (cutQ s).data.toList else [(cutP s).data.toList] := by
  rw [splitL_idx, cutB, cutP, cutQ]
  by_cases h : 0 ≤ Lib.indexByte s.data.toList 47
  · simp only [h, if_true, decide_true, bs_list]
  · simp only [h, if_false, decide_false, Bool.false_eq_true]
theorem cutQ_le (s : ByteArray) : (cutQ s).size ≤ s.size := by
  unfold cutQ
  split
  · rw [bs_size, List.length_drop]; have : s.data.toList.length = s.size := rfl; omega
  · exact Nat.zero_le _
theorem cutP_le (s : ByteArray) : (cutP s).size ≤ s.size := by
  unfold cutP
  split
  · rw [bs_size, List.length_take]; have : s.data.toList.length = s.size := rfl; omega
  · exact Nat.le_refl _
theorem cutQ_lt (s : ByteArray) (h : cutB s = true) : (cutQ s).size < s.size := by
  have h0 : 0 ≤ Lib.indexByte s.data.toList 47 := by simpa [cutB] using h
  obtain ⟨o, ho⟩ : ∃ o : Nat, Lib.indexByte s.data.toList 47 = o := ⟨(Lib.indexByte s.data.toList 47).toNat, by omega⟩
  have hlt := idx_lt s o ho
  rw [cutQ, if_pos h0, ho, bs_size, List.length_drop, Int.toNat_natCast]
  have : s.data.toList.length = s.size := rfl
  omega
end Go.Proofs.Ytmhbkilpllgchaa
