/- An array of 32 bytes among the arguments. -/
import Derived.Test.YtmhbkilpllgchaaRow
import Derived.Test.YtmhbkilpllgchaaShaE
import Derived.WideKeyArr2
namespace Go.Proofs.Ytmhbkilpllgchaa
open Go.ChangeShapes Go.WideShapes Go.ChangeAt Go.RowKit
set_option linter.unusedVariables false

theorem cells29 : Try.prog.cellsOf 29 = 32 := by kernel_rfl
theorem arr29 : WideMaps.ArrKey Try.prog 29 5 32 := ⟨Try.underlying29, plain5, cells5, cells29⟩
set_option maxRecDepth 100000 in
theorem typesPos : ∃ m, Try.prog.types.size = m + 1 := by
  have h : 0 < Try.prog.types.size := of_decide_eq_true (by kernel_rfl)
  generalize Try.prog.types.size = n at h
  exact ⟨n - 1, by omega⟩
def byteOf : Value → UInt8
  | .int _ a => UInt8.ofNat a.toNat
  | _ => 0
set_option maxRecDepth 100000 in
theorem open_hash {H : Type} {enc : TypeId × Value → H} {W : World} {r : Reach} {b0 base : Nat} {sp : Nat → Bool} {held : Bool} {v : Value} {d : DataW H} {ps : List MemPlace}
    (hval : Value.okWide Try.prog W r b0 29 v) (hd : DataW.Trod enc Try.prog W base sp held 29 v d ps) : ∃ L : List UInt8, v = .agg (bcells L) ∧ L.length = 32 ∧ ps = [] := by
  obtain ⟨xs, rfl, hn⟩ := WideMaps.okWide_arr arr29 hval
  have hps : ps = [] := by
    obtain ⟨ls, _, h, _⟩ := WideMaps.open_arr arr29 Try.underlying5 typesPos hn hd
    exact h
  refine ⟨xs.toList.map byteOf, ?_, by simp [hn], hps⟩
  obtain ⟨fuel, hf⟩ := hd
  cases fuel with
  | zero => simp [DataW.trod] at hf
  | succ m =>
    rw [DataW.trod_step] at hf
    unfold DataW.trodStep at hf
    simp only [arr29.hu, Value.cells] at hf
    rw [if_pos (by rw [arr29.size]; simpa using hn)] at hf
    simp only [Option.map_eq_some_iff] at hf
    obtain ⟨ys, hy, e1⟩ := hf
    have each := mapM_each hy
    congr 1
    apply Array.ext_getElem?
    intro i
    by_cases hi : i < 32
    · obtain ⟨z, hz⟩ := each i (by first | exact List.mem_range.2 hi | (rw [List.mem_range'_1]; omega))
      obtain ⟨a, ea, _, wa⟩ := DataW.trod_int Try.underlying5 hz
      have hxi : xs[i]? = some (.int .u8 a) := by
        rw [cells5, Nat.mul_one] at ea
        have h2 : i < xs.toList.length := by simpa [hn] using hi
        rw [List.drop_eq_getElem_cons h2] at ea
        simp only [List.take_succ_cons, List.take_zero, List.cons.injEq, and_true] at ea
        rw [← ea]
        simp [hn, hi]
      have hw : 0 ≤ a ∧ a ≤ 255 := by simpa [Lit.wf, IntKind.min, IntKind.max, IntKind.signed, IntKind.bits] using wa
      have hb : B (byteOf (.int .u8 a)) = .int .u8 a := by
        show Value.int .u8 _ = _
        rw [byteOf, UInt8.toNat_ofNat']
        congr 1
        omega
      rw [hxi, bcells]
      simp [hxi, hb]
    · rw [Array.getElem?_eq_none (by omega), Array.getElem?_eq_none (by simp [bcells, hn]; omega)]
end Go.Proofs.Ytmhbkilpllgchaa
