/- awake of law 1. -/
import Derived.Test.YtmhbkilpllgchaaShaE
namespace Go.Proofs.Ytmhbkilpllgchaa
open Go.RowKit BigFrame
set_option linter.unusedVariables false
set_option linter.unusedSimpArgs false

/-- An array out of a block, in a quiet head, under a guard that holds. -/
theorem wpQuiet_ld_g {P : Program} {ops : Array Oper} {C : World → Prop} {Q : Act → Prop} {a : Act} {rest : List Oper} {ty : TypeId} {x : Operand} {d : Nat} {ot : TypeId} {pos : String} {after : Array Edge} {gd : Option (Nat × Bool)} (g o : Nat) (cs : List Value)
    (hgd : Region.wanted ⟨some d, .load ty x, ot, pos, after, gd⟩ (yielded ops a.tmps) = true)
    (hx : a.eval x = .pointer (some ⟨g, o, none⟩)) (hw : ∀ w, C w → w.rangeAt g o cs) {ds : TypeDesc} (hu : P.underlying ty = some ds) (hd : ds.isRow = true) (hi : (P.info? ty).map (·.size) = some cs.length)
    (h : wpQuiet P ops C Q rest ⟨a.tmps.setIfInBounds d (.agg cs.toArray), a.defers⟩) : wpQuiet P ops C Q (⟨some d, .load ty x, ot, pos, after, gd⟩ :: rest) a := by
  refine wpQuiet_step fun K hK => ?_
  rw [if_pos hgd]
  refine ⟨.agg cs.toArray, fun w hC => ?_, hK _ h⟩
  unfold Oper.quietAt execOp
  simp only [hx, Instr.loadAt, Instr.sureAddr, Sem.run_bind, Sem.run_pure, Result.andThen_ok, run_loadVar_mid w g o ty cs ds (hw w hC) hu hd hi]
  exact ⟨rfl, rfl⟩

set_option maxRecDepth 100000 in
set_option maxHeartbeats 1000000 in
theorem awake1_any (w : World) : Calls Try.prog 37 #[] w fun e w' => e = .returned (.bool true) ∧ Below w.heap.size w w' := by
  obtain ⟨L, eL⟩ : ∃ L, L = sha [97, 98, 99] := ⟨_, rfl⟩
  have hLl : L.length = 32 := by rw [eL, sha_length]
  have k0 : (bcells L)[0]? = some (.int .u8 186) := by rw [eL, sha_abc]; rfl
  have k1 : (bcells L)[1]? = some (.int .u8 120) := by rw [eL, sha_abc]; rfl
  have k30 : (bcells L)[30]? = some (.int .u8 21) := by rw [eL, sha_abc]; rfl
  have k31 : (bcells L)[31]? = some (.int .u8 173) := by rw [eL, sha_abc]; rfl
  have HL := Lib.hid (And.intro eL (And.intro k0 (And.intro k1 (And.intro k30 k31))))
  clear eL k0 k1 k30 k31
  go_enter Try.func37, Try.ntmps37
  go_wp2_with fail
  refine (ssum_any _ w (by decide)).mono ?_
  rintro e w1 ⟨rfl, hb1⟩
  have eV : shaV { data := #[97, 98, 99] } = .agg (bcells L) := by rw [HL.out.1]; rfl
  rw [eV]
  clear eV
  have hA0 : Blk (w1.alloc (.cells z32 29)) w1.heap.size 29 z32 := Blk.new _ _ _
  have hbA := hb1.alloc hb1.size (.cells z32 29)
  go_wp2_with (refine wpList_alN (d := 1) z32 zero29 w1.heap.size rfl (wpList_st_row w1.heap.size (bcells L) rfl rfl 29 z32 hA0 (by rw [size29, bcells_size, hLl]) (by rw [bcells_size, hLl]; rfl) (bcells_one _) ?_); simp only [List.setIfInBounds_toArray, List.set_cons_succ, List.set_cons_zero])
  have hA1 : Blk ((w1.alloc (.cells z32 29)).setRow w1.heap.size (bcells L)) w1.heap.size 29 (bcells L) := hA0.row _
  have hb2 : Below w.heap.size w ((w1.alloc (.cells z32 29)).setRow w1.heap.size (bcells L)) := below_setRow hbA hb1.size _
  obtain ⟨w2, e2⟩ : ∃ w2, w2 = (w1.alloc (.cells z32 29)).setRow w1.heap.size (bcells L) := ⟨_, rfl⟩
  rw [← e2] at hA1 hb2 ⊢
  obtain ⟨A, eA⟩ : ∃ A, A = w1.heap.size := ⟨_, rfl⟩
  rw [← eA] at hA1 ⊢
  clear e2 eA hA0 hbA hb1
  refine (DigL.new w2).mono ?_
  rintro e w3 ⟨D, eD, rfl, hD3, hb3, hs3⟩
  have hAl := hA1.lt
  have hAD : A < D := by omega
  have hA3 := hA1.below hb3 hAl
  have hbw3 : Below w.heap.size w w3 := hb2.trans (hb3.mono hb2.size)
  have hwD : w.heap.size ≤ D := by rw [eD]; exact hb2.size
  have ED := Lib.hid eD
  have hbs := hb3.size
  clear eD
  go_wp2_with fail
  refine (hD3.write _ (by decide) (by simp) hbs).mono ?_
  rintro e w4 ⟨rfl, rv4, hD4, hr4, hK4⟩
  have hb4 : Below D w3 w4 := ⟨hK4.os, hK4.tape, hK4.output, hK4.size, fun i hi => hK4.block i (by omega) (by omega) (by simp [Value.ownBlock])⟩
  have hs4 := hb4.size
  have hA4 := hA3.below hb4 hAD
  go_wp2_with fail
  refine (hD4.write _ (by decide) (by simp) (by omega)).mono ?_
  rintro e w5 ⟨rfl, rv5, hD5, _, hK5⟩
  have hb5 : Below D w4 w5 := ⟨hK5.os, hK5.tape, hK5.output, hK5.size, fun i hi => hK5.block i (by omega) (by omega) (fun e => by
    rcases hr4 with h | ⟨g, h, hg⟩
    · rw [h] at e; cases e
    · rw [h] at e; injection e with e; omega)⟩
  have hA5 := hA4.below hb5 hAD
  have hbw5 : Below w.heap.size w w5 := hbw3.trans ((hb4.trans hb5).mono hwD)
  have hD6 : DigL w5 D w2.heap.size rv5 [97, 98, 99] := hD5
  have hA5l := hA5.lt
  have ec : ∀ (x : World) (i : Nat) (v : Value), (bcells L)[i]? = some v → (later w5 x).cell? ⟨A, i, none⟩ = some v := fun x i v hv => by rw [later_cell w5 x hA5l, hA5.cell, hv]
  have c0 := fun x => ec x 0 _ HL.out.2.1
  have c1 := fun x => ec x 1 _ HL.out.2.2.1
  have c30 := fun x => ec x 30 _ HL.out.2.2.2.1
  have c31 := fun x => ec x 31 _ HL.out.2.2.2.2
  have heq : ∀ w', (binOp .eql 29 (.agg (bcells L)) (.agg (bcells L))).run Try.prog w' = .ok (.bool true) w' := fun w' => by rw [eql_bytes w' L L hLl hLl]; simp
  have heq2 : ∀ w', (Op.equalIn 10000 29 (.agg (bcells L)) (.agg (bcells L))).run Try.prog w' = .ok true w' := fun w' => by rw [run_equal_bytes w' L L hLl hLl]; simp
  have hsum : ∀ x, Calls Try.prog 34 #[.pointer (some ⟨D, 0, none⟩)] (later w5 x) fun e w'' => e = .returned (.agg (bcells L)) ∧ ∃ k, w'' = later w5 k := fun x => by
    rw [HL.out.1]
    exact later_call ((hD6.later x).sum (by decide))
  have hlen : ∀ x, Calls Try.prog 33 #[.pointer (some ⟨D, 0, none⟩)] (later w5 x) fun e w'' => e = .returned (.int .i64 3) ∧ ∃ k, w'' = later w5 k := fun x => later_call_same ((hD6.later x).len)
  have hnum : ∀ x, Calls Try.prog 39 #[.int .i64 0] (later w5 x) fun e w'' => e = .returned (.int .i64 0) ∧ ∃ k, w'' = later w5 k := fun x => later_call_same (num_any 0 _)
  clear hD3 hD4 hD5 hA1 hA3 hA4 hb2 hb3 hb4 hb5 hbw3 hK4 hK5 hr4 hs4 hs3 hbs ec
  go_wp2_with fail
  refine wp_region_later (by kernel_rfl) (by kernel_rfl) ?_
  repeat (first
    | (refine wpQuiet_ld_g (d := 30) A 0 (bcells L).toList rfl rfl (by rintro _ ⟨x, rfl⟩; exact range_of_blk (hA5.below (later_below w5 x) hA5l)) Try.underlying29 rfl (by rw [size29, Array.length_toList, bcells_size, hLl]) ?_; simp only [List.setIfInBounds_toArray, List.set_cons_succ, List.set_cons_zero, Array.toArray_toList])
    | (go_big_quiet_step ((first | (go_at_call 34; exact hsum _) | (go_at_call 33; exact hlen _) | (go_at_call 39; exact hnum _)))))
  refine wpQuiet_nil ?_
  rintro _ ⟨x, rfl⟩
  go_wp2
  go_ret
  exact ⟨rfl, hbw5.trans ((later_below w5 x).mono hbw5.size)⟩
end Go.Proofs.Ytmhbkilpllgchaa
