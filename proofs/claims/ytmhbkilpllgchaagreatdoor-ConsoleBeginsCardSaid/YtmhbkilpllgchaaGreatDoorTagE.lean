/- A tag's digest, whatever the tag and the parts, by the program and by the reference; awake of law 2. -/
import Derived.Test.YtmhbkilpllgchaaGreatDoorTagC
import Derived.Test.YtmhbkilpllgchaaGreatDoorLend
namespace Go.Proofs.YtmhbkilpllgchaaGreatDoor
open Go.RowKit BigFrame
set_option linter.unusedVariables false
set_option linter.unusedSimpArgs false

def tagOk (t : Int) (ss : List ByteArray) : Bool := decide (0 ≤ t) && decide (t ≤ 4) && decide (total ss ≤ 65536)
def tagH (t : Int) (ss : List ByteArray) : List UInt8 := if tagOk t ss then sha (tagL t.toNat ss) else List.replicate 32 0
def tagE (t : Int) (ss : List ByteArray) : Int := if tagOk t ss then 0 else 200
theorem tagH_length (t : Int) (ss : List ByteArray) : (tagH t ss).length = 32 := by
  unfold tagH; split
  · exact sha_length _
  · rw [List.length_replicate]
theorem z32_cells : z32 = bcells (List.replicate 32 0) := by kernel_rfl

def tagT (t : Int) (ss : List ByteArray) : Value := .tuple #[.agg (bcells (tagH t ss)), .int .i64 (tagE t ss)]
theorem tagT_no {t : Int} {ss : List ByteArray} (h : tagOk t ss = false) : tagT t ss = tagNo := by
  rw [tagT, tagH, tagE, h, tagNo, z32_cells]; rfl
theorem tagT_yes {t : Nat} {ss : List ByteArray} (ht : t ≤ 4) (h : total ss ≤ 65536) : tagT (t : Int) ss = tagYes t ss := by
  have : tagOk (t : Int) ss = true := by
    rw [tagOk, decide_eq_true (by omega), decide_eq_true (by omega), decide_eq_true h]; rfl
  rw [tagT, tagH, tagE, this, tagYes]; rfl

section
variable (t : Int) (pa : Option Addr) (ss : List ByteArray) (c : Nat) (w : World) (hn : ss.length * 16 ≤ 140737488351232) (hx : Strs w pa ss) (hz : ∀ j, j < ss.length → (ss.getD j ByteArray.empty).size ≤ 140737488351232)
include hn hx hz
/-- **tag.Sum.** -/
theorem tag_any : Calls Tryz.prog 55 #[.int .i64 t, .slice pa ss.length c] w fun e w' => e = .returned (tagT t ss) ∧ Below w.heap.size w w' := by
  by_cases h : t < 0 ∨ 4 < t
  · rw [tagT_no (by rw [tagOk]; rcases h with h | h; · rw [decide_eq_false (by omega)]; rfl
                    · rw [decide_eq_false (p := t ≤ 4) (by omega), Bool.and_false]; rfl)]
    exact tsum_tag t pa ss.length c w h
  · by_cases h2 : total ss ≤ 65536
    · obtain ⟨m, rfl⟩ : ∃ m : Nat, t = m := ⟨t.toNat, by omega⟩
      rw [tagT_yes (by omega) h2]
      exact tsum_ok m pa ss c w (by omega) hn hx h2
    · rw [tagT_no (by rw [tagOk, decide_eq_false h2, Bool.and_false])]
      exact tsum_long t pa ss c w (by omega) (by omega) hn hx hz (by omega)
/-- The reference's Tag. -/
theorem rtag_all : Calls Tryz.prog 42 #[.int .i64 t, .slice pa ss.length c] w fun e w' => e = .returned (tagT t ss) ∧ Below w.heap.size w w' := by
  by_cases h : t < 0 ∨ 4 < t
  · rw [tagT_no (by rw [tagOk]; rcases h with h | h; · rw [decide_eq_false (by omega)]; rfl
                    · rw [decide_eq_false (p := t ≤ 4) (by omega), Bool.and_false]; rfl)]
    exact rtag_tag t pa ss.length c w h
  · obtain ⟨m, rfl⟩ : ∃ m : Nat, t = m := ⟨t.toNat, by omega⟩
    have := rtag_any m pa ss c w (by omega) hn hx hz
    by_cases h2 : total ss ≤ 65536
    · rw [tagV, if_pos h2] at this
      rw [tagT_yes (by omega) h2]
      exact this
    · rw [tagV, if_neg h2] at this
      rw [tagT_no (by rw [tagOk, decide_eq_false h2, Bool.and_false])]
      exact this
end

/-- Texts in a block of their own. -/
theorem strs_new {w : World} {g : Nat} (ss : List ByteArray) (hb : Blk w g 9 (ss.map SV).toArray) : Strs w (some ⟨g, 0, none⟩) ss := by
  refine ⟨(fun e => by cases e), fun a e j hj => ?_⟩
  injection e with e
  subst e
  have e : ((⟨g, 0, none⟩ : Addr).add j) = ⟨g, j, none⟩ := by rw [Addr.add_mid, Nat.zero_add]
  rw [e]
  refine ⟨hb.lt, ?_⟩
  rw [hb.cell, List.getElem?_toArray, List.getElem?_map, List.getElem?_eq_getElem hj, List.getD, List.getElem?_eq_getElem hj]
  rfl

end Go.Proofs.YtmhbkilpllgchaaGreatDoor
