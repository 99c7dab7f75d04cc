/- Lists of texts: compared, copied, lent with marked room behind them, held against what they were. -/
import Derived.Test.YtmhbkilpllgchaaGreatDoorTagD
import Derived.Deep.QuietTactic
import Derived.BigQuiet
import Derived.WalkLawsBesides
import Derived.Lib.Strings
namespace Go.Proofs.YtmhbkilpllgchaaGreatDoor
open Go.RowKit BigFrame
set_option linter.unusedVariables false
set_option linter.unusedSimpArgs false

theorem info9 : (Tryz.prog.info? 9).map (fun i => (i.zero, i.size, i.bytes)) = some (some (.string ⟨#[]⟩), 1, 16) := by kernel_rfl

def SV (s : ByteArray) : Value := .string s

theorem Strs.drewN {w : World} {pa : Option Addr} {ss : List ByteArray} (h : Strs w pa ss) (m : Nat) : Strs (w.drewN m) pa ss := h

theorem str_beq (x y : ByteArray) (h : x ≠ y) : (x.toList == y.toList) = false := by
  rw [beq_eq_false_iff_ne, Lib.toList_data, Lib.toList_data]
  intro e
  apply h
  cases x; cases y
  simp only [ByteArray.mk.injEq]
  exact Array.toList_inj.1 e

def room : ByteArray := ⟨#[86, 114, 97, 97, 95]⟩
def behind : ByteArray := ⟨#[86, 98, 101, 104, 105, 110, 100]⟩

theorem SV_one (ss : List ByteArray) : ∀ u ∈ ss.map SV, u.oneCell' = true := fun u hu => by
  obtain ⟨s, _, rfl⟩ := List.mem_map.1 hu
  rfl
/-- A slice that reads as these strings, as the source of an append. -/
theorem src_strs {w : World} {pa : Option Addr} {ss : List ByteArray} (h : Strs w pa ss) (c : Nat) : Src Tryz.prog 1 28 (.slice pa ss.length c) ss.length (ss.map SV) w := by
  cases pa with
  | none =>
    have := h.1 rfl
    subst this
    exact Src.ofNil w Tryz.underlying28 c
  | some a =>
    refine Src.ofSlice w Tryz.underlying28 a ss.length c (ss.map SV) (by simp) (fun j u hu => ?_) (SV_one ss)
    have hj : j < ss.length := by
      have := (List.getElem?_eq_some_iff.1 hu).1
      simpa using this
    rw [List.getElem?_map, List.getElem?_eq_getElem hj] at hu
    rw [(h.2 a rfl j hj).2, ← hu, List.getD, List.getElem?_eq_getElem hj]
    rfl

/-- What is lent: the texts, in a place with marked room behind them. -/
def Lent (w : World) (base g cap : Nat) (ss : List ByteArray) : Prop := w.ownsRow base 9 1 (.slice (some ⟨g, 0, none⟩) (ss.length + 2) cap) (ss.length + 2) ((ss ++ [room, behind]).map SV)
theorem Lent.lt {w : World} {base g cap : Nat} {ss : List ByteArray} (h : Lent w base g cap ss) : base ≤ g ∧ g < w.heap.size ∧ ss.length + 2 ≤ cap ∧ cap ≤ maxLen := by
  obtain ⟨g', cap', e, h1, h2, h3, h4⟩ := row_form h (by simp)
  simp only [Value.slice.injEq, Option.some.injEq, Addr.mk.injEq] at e
  obtain ⟨⟨rfl, -, -⟩, -, rfl⟩ := e
  exact ⟨h1, h2, h3, h4⟩
theorem Lent.cell {w : World} {base g cap : Nat} {ss : List ByteArray} (h : Lent w base g cap ss) (j : Nat) (hj : j < ss.length + 2) : w.cell? ⟨g, j, none⟩ = some (.string ((ss ++ [room, behind]).getD j ByteArray.empty)) := by
  have hj' : j < (ss ++ [room, behind]).length := by simpa using hj
  have := h.cells (g := g) rfl j (SV ((ss ++ [room, behind])[j])) (by rw [List.getElem?_map, List.getElem?_eq_getElem hj']; rfl)
  rw [List.getD, List.getElem?_eq_getElem hj']
  have e : ((⟨g, 0, none⟩ : Addr).add j) = ⟨g, j, none⟩ := by rw [Addr.add_mid, Nat.zero_add]
  rw [e] at this
  exact this
theorem Lent.strs {w : World} {base g cap : Nat} {ss : List ByteArray} (h : Lent w base g cap ss) : Strs w (some ⟨g, 0, none⟩) ss := by
  refine ⟨(fun e => by cases e), fun a e j hj => ?_⟩
  injection e with e
  subst e
  have e : ((⟨g, 0, none⟩ : Addr).add j) = ⟨g, j, none⟩ := by rw [Addr.add_mid, Nat.zero_add]
  rw [e]
  refine ⟨h.lt.2.1, ?_⟩
  rw [h.cell j (by omega)]
  simp [List.getD, List.getElem?_append_left hj]
theorem Lent.below {w w' : World} {base g cap : Nat} {ss : List ByteArray} (h : Lent w base g cap ss) (hb : Below w.heap.size w w') : Lent w' base g cap ss :=
  World.ownsRow.kept h (grown_below hb (Nat.le_refl _) none) (by simp [Value.ownBlock])

end Go.Proofs.YtmhbkilpllgchaaGreatDoor
