/- The iterator of what stands between slashes. -/
import Derived.Test.YtmhbkilpllgchaaCut
namespace Go.Proofs.Ytmhbkilpllgchaa
open Go.RowKit Go.Shelf
set_option linter.unusedVariables false
set_option linter.unusedSimpArgs false
attribute [local go_sem] Oper.semAt_some

set_option maxRecDepth 100000 in
theorem names_any (p : ByteArray) (w : World) : Calls Try.prog 76 #[.string p] w fun e w' =>
    e = .returned (.func (.func 98) #[] #[.pointer (some ⟨w.heap.size, 0, none⟩)]) ∧ w' = w.alloc (.cells #[.string p] 9) := by
  go_enter Try.func76, Try.ntmps76
  go_wp2
  go_ret
  exact ⟨rfl, rfl⟩

/-- How much is left. -/
def leftN (Bp : Nat) (m : Value) (wr : World) : Nat :=
  match m with
  | .bool true => match wr.cell? ⟨Bp, 0, none⟩ with
    | some (.string p) => p.size + 2
    | _ => 1
  | _ => 0
theorem leftN_true {Bp : Nat} {wr : World} {p : ByteArray} (h : wr.cell? ⟨Bp, 0, none⟩ = some (.string p)) : leftN Bp (.bool true) wr = p.size + 2 := by simp [leftN, h]
theorem leftN_false {Bp : Nat} {wr : World} : leftN Bp (.bool false) wr = 0 := rfl

def piecesP (p : ByteArray) : List ByteArray := (splitL p.data.toList).map bs
theorem piecesP_cut (p : ByteArray) : piecesP p = if cutB p then cutP p :: piecesP (cutQ p) else [cutP p] := by
  rw [piecesP, split_cut]
  by_cases h : cutB p = true
  · rw [if_pos h, if_pos h, List.map_cons, bs_of, piecesP]
  · rw [if_neg h, if_neg h, List.map_cons, bs_of, List.map_nil]

set_option maxRecDepth 100000 in
set_option maxHeartbeats 1000000 in
theorem names1_in (n l Bp N : Nat) (p0 : ByteArray) (hp0 : p0.size ≤ 140737488351232) (J Jx : List ByteArray → World → Prop) (W : World)
    (hJ : ∀ s A B, J s A → A.grownBy B (some Bp) → J s B)
    (hY : ∀ pre x W1, J pre W1 → pre.length < N → YieldAt Fence.wide (n - 1) Try.prog l #[.string x] W1 fun e W' =>
      (e = .returned (.bool true) ∧ J (pre ++ [x]) W' ∧ W'.heap[Bp]? = W1.heap[Bp]?) ∨ (e = .returned (.bool false) ∧ Jx (pre ++ [x]) W'))
    (hB : Blk W Bp 9 #[.string p0]) (hN : (piecesP p0).length ≤ N) (h0 : J [] W) :
    CallsIn Fence.wide n Try.prog 98 #[.func (.yield l) #[] #[], .pointer (some ⟨Bp, 0, none⟩)] W fun e W' => (∃ v, e = .returned v) ∧
      ((∃ ys, ys = piecesP p0 ∧ J ys W') ∨ (∃ pre, pre <+: piecesP p0 ∧ Jx pre W')) := by
  refine callsIn_of_wp Try.func98 rfl trivial ?_ rfl
  simp only [Try.ntmps98, List.size_toArray, List.length_cons, List.length_nil, Nat.reduceAdd, Nat.reduceSub, Array.replicate_succ, Array.replicate_zero, List.push_toArray, List.append_toArray, List.nil_append, List.cons_append]
  gi_wp2
  gi_loopw [3] (fun m wr => ∃ (pre : List ByteArray) (p : ByteArray) (b : Bool), m = .bool b ∧ J pre wr ∧ Hid (piecesP p0 = pre ++ if b then piecesP p else []) ∧ Blk wr Bp 9 #[.string p] ∧ p.size ≤ 140737488351232) (fun m wr => leftN Bp m wr)
  case atStart => exact ⟨[], p0, true, rfl, h0, Lib.hid rfl, hB, hp0⟩
  case round =>
    clear hB h0
    obtain ⟨pre, p, b, rfl, hJr, HP, hB, hp⟩ := hrel
    cases b with
    | false =>
      have hP := HP.out
      simp only [Bool.false_eq_true, if_false, List.append_nil] at hP
      gi_wp2
      go_end0
      exact ⟨⟨_, rfl⟩, .inl ⟨pre, hP.symm, hJr⟩⟩
    | true =>
      have hc : wr.cell? ⟨Bp, 0, none⟩ = some (.string p) := by rw [hB.cell]; rfl
      have hf := hB.frozen 0
      have hcut := cut_any p wr hp
      obtain ⟨x, ex⟩ : ∃ x, x = cutP p := ⟨_, rfl⟩
      obtain ⟨q, eq⟩ : ∃ q, q = cutQ p := ⟨_, rfl⟩
      obtain ⟨b, eb⟩ : ∃ b, b = cutB p := ⟨_, rfl⟩
      rw [← ex, ← eq, ← eb] at hcut
      have HC := Lib.hid hcut
      have EX := Lib.hid (And.intro ex (And.intro eq eb))
      have HJ := Lib.hid hJ
      have HY := Lib.hid hY
      clear hcut ex eq eb hJ hY
      gi_wp2_with fail
      refine ⟨trivial, (fun h => by cases h), ?_⟩
      refine (callsIn_wide.2 HC.out).mono ?_
      rintro e _ ⟨rfl, m, rfl⟩
      have hg1 : wr.grownBy ((wr.drewN m).setCell ⟨Bp, 0, none⟩ (.string q)) (some Bp) := grown_setCell (grown_drewN (World.grownBy.refl _ _) m) rfl _
      have hJ5 := HJ.out _ _ _ hJr hg1
      have hB5 : Blk ((wr.drewN m).setCell ⟨Bp, 0, none⟩ (.string q)) Bp 9 #[.string q] := (hB.drewN m).set_ 0 (.string q)
      have hnx : piecesP p0 = (pre ++ [x]) ++ if b then piecesP q else [] := by
        have h1 : piecesP p0 = pre ++ piecesP p := by have := HP.out; simpa using this
        rw [piecesP_cut p, ← EX.out.1, ← EX.out.2.1, ← EX.out.2.2] at h1
        rw [h1]
        cases b <;> simp
      have hlen : pre.length < N := by
        have := congrArg List.length hnx
        simp only [List.length_append, List.length_cons, List.length_nil] at this
        omega
      have hq : q.size ≤ 140737488351232 := by rw [EX.out.2.1]; exact Nat.le_trans (cutQ_le p) hp
      have HNX := Lib.hid hnx
      have HQ := Lib.hid (show b = true → q.size < p.size from fun h => by rw [EX.out.2.1]; exact cutQ_lt p (by rw [← EX.out.2.2]; exact h))
      obtain ⟨fn, tmps, assign, body, hy, hR⟩ := HY.out pre x _ hJ5 hlen
      clear hJ5 hnx hlen hg1
      gi_wp2
      refine ⟨(fun h => by cases h), ?_⟩
      refine hR.mono ?_
      rintro e W3 (⟨rfl, hJ3, hk3⟩ | ⟨rfl, hx3⟩)
      · have hB3 : Blk W3 Bp 9 #[.string q] := hk3.trans hB5
        gi_wp2
        go_roundw
        case rel => exact ⟨pre ++ [x], q, b, rfl, hJ3, HNX, hB3, hq⟩
        case measure =>
          rw [leftN_true (p := p) (by rw [hB.cell]; rfl)]
          cases b with
          | true => rw [leftN_true (p := q) (by rw [hB3.cell]; rfl)]; have := HQ.out rfl; omega
          | false => rw [leftN_false]; omega
      · gi_wp2
        refine bodyPost_ret (results_none rfl _ _ _) rfl ?_
        exact ⟨⟨_, rfl⟩, .inr ⟨_, ⟨_, HNX.out.symm⟩, hx3⟩⟩

/-- **The iterator of what stands between slashes.** -/
theorem names_at (n Bp : Nat) (p0 : ByteArray) (hp0 : p0.size ≤ 140737488351232) (w : World) (hB : Blk w Bp 9 #[.string p0]) :
    SeqAt n Try.prog 98 #[.pointer (some ⟨Bp, 0, none⟩)] (fun x : ByteArray => Value.string x) (fun A B => A.grownBy B (some Bp)) (fun W W' => W'.heap[Bp]? = W.heap[Bp]?) (fun ys => ys = piecesP p0) (fun ys => ys <+: piecesP p0) ((piecesP p0).length) w := by
  intro l J Jx W hb hJ hY h0
  exact names1_in n l Bp _ p0 hp0 J Jx W hJ hY (hB.below hb hB.lt) (Nat.le_refl _) h0
end Go.Proofs.Ytmhbkilpllgchaa
