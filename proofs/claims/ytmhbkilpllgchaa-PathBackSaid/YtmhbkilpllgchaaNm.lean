/- Names: which may be, by the program and by the reference; lists of texts compared. -/
import Derived.Test.YtmhbkilpllgchaaStr
import Derived.Test.YtmhbkilpllgchaaRow
import Derived.WalkLawsBesides
import Derived.Lib.Strings
import Derived.Lib.IndexLaws
import Derived.Outline
import Derived.Lib.Hide
namespace Go.Proofs.Ytmhbkilpllgchaa
open Go.RowKit
set_option linter.unusedVariables false
set_option linter.unusedSimpArgs false

def plainB (b : UInt8) : Bool := b != 47 && b != 0
def nameL (l : List UInt8) : Bool := decide (1 ≤ l.length) && decide (l.length ≤ 24) && !(l == [46]) && !(l == [46, 46]) && l.all plainB
/-- May a name be? -/
def nameB (s : ByteArray) : Bool := nameL s.data.toList

theorem idx_mem (l : List UInt8) (c : UInt8) : 0 ≤ Lib.indexByte l c ↔ c ∈ l := by
  have hge := Lib.indexByte_ge l c
  constructor
  · intro h
    obtain ⟨o, ho⟩ : ∃ o : Nat, Lib.indexByte l c = o := ⟨(Lib.indexByte l c).toNat, by omega⟩
    exact List.mem_of_getElem? (Lib.indexByte_some ho).1
  · intro h
    rcases Int.lt_or_le (Lib.indexByte l c) 0 with hlt | hle
    · obtain ⟨k, hk⟩ := List.getElem?_of_mem h
      exact absurd hk (Lib.indexByte_none (by omega) k)
    · exact hle
theorem all_plain (l : List UInt8) : l.all plainB = (!decide (0 ≤ Lib.indexByte l 47) && !decide (0 ≤ Lib.indexByte l 0)) := by
  rw [Bool.eq_iff_iff]
  simp only [List.all_eq_true, Bool.and_eq_true, Bool.not_eq_true', decide_eq_false_iff_not, idx_mem, plainB, bne_iff_ne, ne_eq]
  constructor
  · intro h
    exact ⟨fun hm => (h _ hm).1 rfl, fun hm => (h _ hm).2 rfl⟩
  · intro h x hx
    exact ⟨fun e => h.1 (e ▸ hx), fun e => h.2 (e ▸ hx)⟩
theorem nameB_eq (s : ByteArray) : nameB s = (decide (1 ≤ (s.size : Int)) && decide ((s.size : Int) ≤ 24) && !(s.toList == [46]) && !(s.toList == [46, 46]) && (!decide (0 ≤ Lib.indexByte s.data.toList 47) && !decide (0 ≤ Lib.indexByte s.data.toList 0))) := by
  rw [nameB, nameL, all_plain, Lib.toList_data]
  have e : s.data.toList.length = s.size := rfl
  have e1 : decide (1 ≤ s.data.toList.length) = decide (1 ≤ (s.size : Int)) := by rw [e]; exact decide_eq_decide.2 (by omega)
  have e2 : decide (s.data.toList.length ≤ 24) = decide ((s.size : Int) ≤ 24) := by rw [e]; exact decide_eq_decide.2 (by omega)
  rw [e1, e2]

set_option maxRecDepth 100000 in
set_option maxHeartbeats 400000 in
theorem dname_any (s : ByteArray) (w : World) : Calls Try.prog 77 #[.string s] w fun e w' => e = .returned (.bool (nameB s)) ∧ w = w' := by
  have HN := Lib.hid (nameB_eq s)
  go_enter Try.func77, Try.ntmps77
  go_wp2_with (go_at_call 100; refine (t_strings_Contains_one s _ _).mono ?_; rintro e w' ⟨rfl, rfl⟩)
  all_goals
    go_ret
    refine ⟨congrArg (fun b => Ending.returned (.bool b)) ?_, rfl⟩
    rw [HN.out]
    first | (simp [*]; done) | (simp_all; done) | (simp_all; intros; omega) | (rw [decide_eq_true ‹1 ≤ (s.size : Int)›, decide_eq_true ‹(s.size : Int) ≤ 24›]; simp [Bool.and_assoc])
set_option maxRecDepth 100000 in
theorem pname_any (s : ByteArray) (w : World) : Calls Try.prog 49 #[.string s] w fun e w' => e = .returned (.bool (nameB s)) ∧ w = w' := by
  go_enter Try.func49, Try.ntmps49
  go_wp2_with (go_at_call 77; refine (dname_any s _).mono ?_; rintro e w' ⟨rfl, rfl⟩)
  go_ret
  exact ⟨rfl, rfl⟩

theorem bt_mem (s : ByteArray) (k : Nat) (h : k < s.size) : bt s k ∈ s.data.toList := by
  have h' : k < s.data.toList.length := h
  rw [bt, List.getD, List.getElem?_eq_getElem h']
  exact List.getElem_mem h'
theorem u8_ne (b c : UInt8) : ((b.toNat : Int) = (c.toNat : Int)) ↔ b = c := by
  rw [Int.natCast_inj]; exact UInt8.toNat_inj

set_option maxRecDepth 100000 in
set_option maxHeartbeats 400000 in
theorem rname_any (s : ByteArray) (w : World) (hs : s.size ≤ 140737488351232) : Calls Try.prog 50 #[.string s] w fun e w' => e = .returned (.bool (nameB s)) ∧ w = w' := by
  by_cases hh : 1 ≤ s.size ∧ s.size ≤ 24 ∧ s.toList ≠ [46] ∧ s.toList ≠ [46, 46]
  · obtain ⟨h1, h2, h3, h4⟩ := hh
    have hn0 : nameB s = s.data.toList.all plainB := by
      have e : s.data.toList.length = s.size := rfl
      rw [Lib.toList_data] at h3 h4
      simp [nameB, nameL, h3, h4, h1, h2]
    have HN := Lib.hid hn0
    clear hn0
    have hlt1 : ¬ (s.size : Int) < 1 := by omega
    have hlt2 : (s.size : Int) ≤ 24 := by omega
    have hq3 : (s.toList == [46]) = false := by simpa using h3
    have hq4 : (s.toList == [46, 46]) = false := by simpa using h4
    go_enter Try.func50, Try.ntmps50
    go_wp2
    go_loop [3] (fun i => ∃ k : Nat, k ≤ s.size ∧ i = .int .i64 k ∧ ∀ j, j < k → plainB (bt s j) = true) (fun i => s.size - (intOf i).toNat)
    case atStart => exact ⟨0, Nat.zero_le _, rfl, fun j hj => by omega⟩
    case round =>
      obtain ⟨k, hk, rfl, hall⟩ := hrel
      have HA := Lib.hid hall
      clear hall
      by_cases hlt : k < s.size
      · have HK := Lib.hid (bt_mem s k hlt)
        obtain ⟨b, hb⟩ : ∃ b, b = bt s k := ⟨_, rfl⟩
        have hb' := hb.symm
        have HB := Lib.hid hb
        clear hb
        by_cases h47 : b = 47
        · subst h47
          go_wp2
          go_ret
          refine ⟨congrArg (fun b => Ending.returned (.bool b)) ?_, rfl⟩
          rw [HN.out]; symm; rw [Bool.eq_false_iff]; intro h; have := (List.all_eq_true.1 h) _ HK.out; rw [← HB.out] at this; revert this; decide
        · by_cases h0 : b = 0
          · subst h0
            go_wp2
            go_ret
            refine ⟨congrArg (fun b => Ending.returned (.bool b)) ?_, rfl⟩
            rw [HN.out]; symm; rw [Bool.eq_false_iff]; intro h; have := (List.all_eq_true.1 h) _ HK.out; rw [← HB.out] at this; revert this; decide
          · have n47 : ((b.toNat : Int) == 47) = false := by
              rw [beq_eq_false_iff_ne]; exact fun e => h47 ((u8_ne b 47).1 e)
            have n0 : ((b.toNat : Int) == 0) = false := by
              rw [beq_eq_false_iff_ne]; exact fun e => h0 ((u8_ne b 0).1 e)
            have hp0 : plainB b = true := by simp [plainB, h47, h0]
            have HP := Lib.hid hp0
            clear hp0
            clear h47 h0
            go_wp2
            go_round
            case rel => exact ⟨k + 1, by omega, by go_num, fun j hj => by
              rcases Nat.lt_or_ge j k with h | h
              · exact HA.out j h
              · obtain rfl : j = k := by omega
                rw [← HB.out]; exact HP.out⟩
            case measure => simp [intOf]; omega
      · go_wp2
        go_ret
        refine ⟨congrArg (fun b => Ending.returned (.bool b)) ?_, rfl⟩
        rw [HN.out]; symm; rw [List.all_eq_true]
        intro x hx
        obtain ⟨j, hj, rfl⟩ := List.mem_iff_getElem.1 hx
        have hj' : j < s.size := hj
        have := HA.out j (by omega)
        rwa [bt, List.getD, List.getElem?_eq_getElem hj] at this
  · have hn0 : nameB s = false := by
      rw [nameB_eq, Bool.eq_false_iff]
      intro h
      apply hh
      simp only [Bool.and_eq_true, decide_eq_true_eq, Bool.not_eq_true', beq_eq_false_iff_ne] at h
      exact ⟨by omega, by omega, h.1.1.2, h.1.2⟩
    have HN := Lib.hid hn0
    clear hn0
    by_cases h1 : s.size < 1
    · have h1' : (s.size : Int) < 1 := by omega
      clear hh h1
      go_enter Try.func50, Try.ntmps50
      go_wp2
      go_ret
      exact ⟨by rw [HN.out]; rfl, rfl⟩
    · by_cases h2 : 24 < s.size
      · have h2' : (24 : Int) < (s.size : Int) := by omega
        have h1' : ¬ (s.size : Int) < 1 := by omega
        clear hh h1 h2
        go_enter Try.func50, Try.ntmps50
        go_wp2
        go_ret
        exact ⟨by rw [HN.out]; rfl, rfl⟩
      · by_cases h3 : s.toList = [46]
        · clear hh
          have hlt1 : ¬ (s.size : Int) < 1 := by omega
          have hlt2 : (s.size : Int) ≤ 24 := by omega
          go_enter Try.func50, Try.ntmps50
          go_wp2
          go_ret
          exact ⟨by rw [HN.out]; rfl, rfl⟩
        · have h4 : s.toList = [46, 46] := by
            rcases Decidable.em (s.toList = [46, 46]) with h | h
            · exact h
            · exact absurd ⟨by omega, by omega, h3, h⟩ hh
          clear hh h3
          have hlt1 : ¬ (s.size : Int) < 1 := by omega
          have hlt2 : (s.size : Int) ≤ 24 := by omega
          go_enter Try.func50, Try.ntmps50
          go_wp2
          go_ret
          exact ⟨by rw [HN.out]; rfl, rfl⟩
end Go.Proofs.Ytmhbkilpllgchaa
