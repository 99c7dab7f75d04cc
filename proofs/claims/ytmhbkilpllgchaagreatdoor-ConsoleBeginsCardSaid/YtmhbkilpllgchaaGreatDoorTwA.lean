/- The walk of ShaTwins. -/
import Derived.Test.YtmhbkilpllgchaaGreatDoorMgShaE
namespace Go.Proofs.YtmhbkilpllgchaaGreatDoor
open Go.RowKit BigFrame
set_option linter.unusedVariables false
set_option linter.unusedSimpArgs false

theorem DigL.other {w w' : World} {Da Db base base' : Nat} {rva rvb : Value} {l m : List UInt8} (ha : DigL w Da base rva l) (hb : DigL w Db base' rvb m) (hne : Da ≠ Db) (hap : ∀ g, rva.ownBlock = some g → rvb.ownBlock ≠ some g)
    (hK : Keeps w w' Db rvb.ownBlock) : DigL w' Da base rva l := by
  have h1 := row_blk_ne hb.dig.row ha.dig.blk (by decide)
  have h2 := row_blk_ne ha.dig.row hb.dig.blk (by decide)
  refine ⟨⟨(hK.block _ ha.dig.blk.lt hne (fun e => h1 e.symm)).trans ha.dig.blk, ?_, ha.dig.nil⟩⟩
  rcases ha.dig.row.2 with hn | ⟨g, cap, cur, hv, hbg, hh, rest⟩
  · exact ⟨ha.dig.row.1, .inl hn⟩
  · have hg : rva.ownBlock = some g := by rw [hv]; rfl
    have hlt : g < w.heap.size := by
      rcases Nat.lt_or_ge g w.heap.size with h | h
      · exact h
      · rw [Array.getElem?_eq_none h] at hh; cases hh
    exact ⟨ha.dig.row.1, .inr ⟨g, cap, cur, hv, hbg, (hK.block g hlt (fun e => h2 (by rw [hg, e])) (fun e => hap g hg e.symm)).trans hh, rest⟩⟩
theorem DigL.apart {w : World} {Da base : Nat} {rva rvb : Value} {l : List UInt8} (ha : DigL w Da base rva l) (h : rvb.ownBlock = none ∨ ∃ g, rvb.ownBlock = some g ∧ w.heap.size ≤ g) : ∀ g, rva.ownBlock = some g → rvb.ownBlock ≠ some g := by
  intro g hg e
  have hl := (ha.dig.row.lt g hg).2
  rcases h with h | ⟨g', h, hle⟩
  · rw [h] at e; cases e
  · rw [h] at e; injection e with e; omega
theorem Keeps.below {w w' : World} {D H base : Nat} {rv : Value} {l : List UInt8} (hK : Keeps w w' D rv.ownBlock) (hd : DigL w D base rv l) (h1 : H ≤ D) (h2 : H ≤ base) (h3 : H ≤ w.heap.size) : Below H w w' :=
  ⟨hK.os, hK.tape, hK.output, hK.size, fun i hi => hK.block i (by omega) (by omega) (fun e => by have := (hd.dig.row.lt i e.symm).1; omega)⟩

end Go.Proofs.YtmhbkilpllgchaaGreatDoor
