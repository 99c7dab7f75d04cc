/- Digests compared; what stays behind quiet calls. An array loaded under a guard. -/
import Derived.Test.YtmhbkilpllgchaaGreatDoorShaQ
import Derived.Test.YtmhbkilpllgchaaGreatDoorMgShaT
import Derived.ChangeKeysEq
import Derived.Laws.StructEq
namespace Go.Proofs.YtmhbkilpllgchaaGreatDoor
open Go.RowKit BigFrame
set_option linter.unusedVariables false
set_option linter.unusedSimpArgs false

theorem cells5 : Tryz.prog.cellsOf 5 = 1 := by kernel_rfl
theorem plain5 : Tryz.prog.plainKey 5 = true := by kernel_rfl
theorem u8_eq (a b : UInt8) : ((a.toNat : Int) == (b.toNat : Int)) = decide (a = b) := by
  by_cases h : a = b
  · simp [h]
  · have h2 : a.toNat ≠ b.toNat := fun e => h (UInt8.toNat_inj.1 e)
    have h3 : ((a.toNat : Int) == (b.toNat : Int)) = false := by
      rw [beq_eq_false_iff_ne]
      omega
    rw [h3, decide_eq_false h]
theorem run_items (w : World) (l m : List UInt8) (h : l.length = m.length) : ∀ is : List Nat, (∀ i ∈ is, i < l.length) →
    (Op.eqItems 9999 5 1 (bcells l) (bcells m) is).run Tryz.prog w = .ok (decide (∀ i ∈ is, l[i]? = m[i]?)) w
  | [], _ => by simp [Op.eqItems]
  | i :: is, hi => by
    have h1 : i < l.length := hi i (by simp)
    have h2 : i < m.length := by omega
    have p1 : (part 5 (bcells l) i).run Tryz.prog w = .ok (B l[i]) w := run_part_plain (w := w) plain5 (by simp [bcells, h1])
    have p2 : (part 5 (bcells m) i).run Tryz.prog w = .ok (B m[i]) w := run_part_plain (w := w) plain5 (by simp [bcells, h2])
    have p3 : (Op.equalIn 9999 5 (B l[i]) (B m[i])).run Tryz.prog w = .ok (decide (l[i] = m[i])) w := by
      rw [← u8_eq]
      exact run_equalIn_int w 9998 5 .u8 .u8 _ _ Tryz.underlying5
    simp only [Op.eqItems, Sem.run_bind, Nat.mul_one, p1, p2, p3, Result.andThen_ok]
    have e : (l[i]? = m[i]?) ↔ l[i] = m[i] := by rw [List.getElem?_eq_getElem h1, List.getElem?_eq_getElem h2, Option.some.injEq]
    by_cases hx : l[i] = m[i]
    · have ih := run_items w l m h is (fun j hj => hi j (by simp [hj]))
      simp only [hx, decide_true, Bool.not_true, Bool.false_eq_true, if_false, ih]
      refine congrArg (fun b => (Result.ok b w : Result Bool)) (decide_eq_decide.2 ?_)
      constructor
      · intro h3 j hj
        rcases List.mem_cons.1 hj with rfl | hj
        · exact e.2 hx
        · exact h3 j hj
      · exact fun h3 j hj => h3 j (List.mem_cons_of_mem _ hj)
    · have : ¬ (∀ j ∈ i :: is, l[j]? = m[j]?) := fun hq => hx (e.1 (hq i (by simp)))
      simp only [hx, decide_false, Bool.not_false, if_true, Sem.run_pure, decide_eq_false this]
theorem run_equal_bytes (w : World) (l m : List UInt8) (hl : l.length = 32) (hm : m.length = 32) : (Op.equalIn 10000 36 (.agg (bcells l)) (.agg (bcells m))).run Tryz.prog w = .ok (decide (l = m)) w := by
  have hs := size29
  cases hq : Tryz.prog.info? 36 with
  | none => rw [hq] at hs; cases hs
  | some i =>
    cases hq5 : Tryz.prog.info? 5 with
    | none => have := info5; rw [hq5] at this; cases this
    | some i5 =>
      rw [run_equalIn_array w 9999 (bcells l) (bcells m) Tryz.underlying36 hq5, cells5, run_items w l m (by omega) (List.range 32) (fun i hi => by have := List.mem_range.1 hi; omega)]
      refine congrArg (fun b => (Result.ok b w : Result Bool)) (decide_eq_decide.2 ?_)
      constructor
      · intro h
        apply List.ext_getElem?
        intro i
        by_cases hi : i < 32
        · exact h i (List.mem_range.2 hi)
        · rw [List.getElem?_eq_none (by omega), List.getElem?_eq_none (by omega)]
      · intro h i _
        rw [h]
theorem eql_bytes (w : World) (l m : List UInt8) (hl : l.length = 32) (hm : m.length = 32) : (binOp .eql 36 (.agg (bcells l)) (.agg (bcells m))).run Tryz.prog w = .ok (.bool (decide (l = m))) w := by
  rw [run_eql_struct, run_equal_bytes w l m hl hm]
  rfl
theorem neq_bytes (w : World) (l m : List UInt8) (hl : l.length = 32) (hm : m.length = 32) : (binOp .neq 36 (.agg (bcells l)) (.agg (bcells m))).run Tryz.prog w = .ok (.bool (!decide (l = m))) w := by
  rw [run_neq_struct, run_equal_bytes w l m hl hm]
  rfl

theorem later_call {P : Program} {f : FuncId} {args : Array Value} {w x : World} {v : Value} (h : Calls P f args (later w x) fun e w' => e = .returned v ∧ Below (later w x).heap.size (later w x) w') :
    Calls P f args (later w x) fun e w'' => e = .returned v ∧ ∃ k, w'' = later w k := h.mono fun _ _ ⟨he, hb⟩ => ⟨he, below_later2 hb⟩
theorem later_call_same {P : Program} {f : FuncId} {args : Array Value} {w x : World} {v : Value} (h : Calls P f args (later w x) fun e w' => e = .returned v ∧ w' = later w x) :
    Calls P f args (later w x) fun e w'' => e = .returned v ∧ ∃ k, w'' = later w k := h.mono fun _ _ ⟨he, hb⟩ => ⟨he, x, hb⟩
theorem Dig.below {w w' : World} {D base : Nat} {rv : Value} {h : S8} {r : List UInt8} {n : Nat} (hd : Dig w D base rv h r n) (hb : Below w.heap.size w w') : Dig w' D base rv h r n :=
  ⟨hd.blk.below hb hd.blk.lt, hd.row.kept (grown_below hb (Nat.le_refl _) none) (by cases rv.ownBlock <;> simp), hd.nil⟩
theorem DigL.below {w w' : World} {D base : Nat} {rv : Value} {l : List UInt8} (hd : DigL w D base rv l) (hb : Below w.heap.size w w') : DigL w' D base rv l := ⟨hd.dig.below hb⟩
theorem DigL.later {w : World} {D base : Nat} {rv : Value} {l : List UInt8} (hd : DigL w D base rv l) (x : World) : DigL (later w x) D base rv l := hd.below (later_below w x)

theorem num_any (n : Int) (w : World) : Calls Tryz.prog 8 #[.int .i64 n] w fun e w' => e = .returned (.int .i64 n) ∧ w' = w := by
  go_enter Tryz.func8, Tryz.ntmps8
  go_wp2
  go_ret
  exact ⟨rfl, rfl⟩
end Go.Proofs.YtmhbkilpllgchaaGreatDoor
namespace Go.Proofs.YtmhbkilpllgchaaGreatDoor
open Go.RowKit BigFrame
set_option linter.unusedVariables false
set_option linter.unusedSimpArgs false

/-- An array out of a block, in a quiet head, under a guard that holds. -/
theorem wpQuiet_ld_g {P : Program} {ops : Array Oper} {C : World → Prop} {Q : Act → Prop} {a : Act} {rest : List Oper} {ty : TypeId} {x : Operand} {d : Nat} {ot : TypeId} {pos : String} {after : Array Edge} {gd : Option (Nat × Bool)} (g o : Nat) (cs : List Value)
    (hgd : Region.wanted ⟨some d, .load ty x, ot, pos, after, gd⟩ (yielded ops a.tmps) = true)
    (hx : a.eval x = .pointer (some ⟨g, o, none⟩)) (hw : ∀ w, C w → w.rangeAt g o cs) {ds : TypeDesc} (hu : P.underlying ty = some ds) (hd : ds.isRow = true) (hi : (P.info? ty).map (·.size) = some cs.length)
    (h : wpQuiet P ops C Q rest ⟨a.tmps.setIfInBounds d (.agg cs.toArray), a.defers⟩) : wpQuiet P ops C Q (⟨some d, .load ty x, ot, pos, after, gd⟩ :: rest) a := by
  refine wpQuiet_step fun K hK => ?_
  rw [if_pos hgd]
  refine ⟨.agg cs.toArray, fun w hC => ?_, hK _ h⟩
  unfold Oper.quietAt execOp
  simp only [hx, Instr.loadAt, Instr.sureAddr, Sem.run_bind, Sem.run_pure, Result.andThen_ok, run_loadVar_mid w g o ty cs ds (hw w hC) hu hd hi]
  exact ⟨rfl, rfl⟩

end Go.Proofs.YtmhbkilpllgchaaGreatDoor
