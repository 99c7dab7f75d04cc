/- A map from digests to texts that the call itself has made. -/
import Derived.Test.YtmhbkilpllgchaaTagF
import Derived.Maps.OwnOps
namespace Go.Proofs.Ytmhbkilpllgchaa
open Go.RowKit
set_option linter.unusedVariables false
set_option linter.unusedSimpArgs false

abbrev KV := List (List UInt8 × ByteArray)
def HV (p : List UInt8 × ByteArray) : Value × Value := (.agg (bcells p.1), .string p.2)
/-- Block B is a map of these texts under these digests. -/
structure MapW (w : World) (B : Nat) (kv : KV) : Prop where
  blk : ∃ es clock, w.heap[B]? = some (.map es clock) ∧ es.toList.map (fun e => (e.key, e.val)) = kv.map HV
  len : ∀ p ∈ kv, p.1.length = 32
def findL (kv : KV) (L : List UInt8) : Option ByteArray := (kv.find? fun p => decide (p.1 = L)).map (·.2)
theorem findL_nil (L : List UInt8) : findL [] L = none := rfl
theorem findL_cons (p : List UInt8 × ByteArray) (kv : KV) (L : List UInt8) : findL (p :: kv) L = if p.1 = L then some p.2 else findL kv L := by
  unfold findL
  rw [List.find?_cons]
  by_cases h : p.1 = L
  · simp [h]
  · simp [h]

theorem MapW.lt {w : World} {B : Nat} {kv : KV} (h : MapW w B kv) : B < w.heap.size := by
  obtain ⟨es, clock, hb, _⟩ := h.blk
  exact (Array.getElem?_eq_some_iff.1 hb).1
theorem MapW.below {w w' : World} {B b : Nat} {kv : KV} (h : MapW w B kv) (hb : Below b w w') (hB : B < b) : MapW w' B kv := by
  obtain ⟨es, clock, h1, h2⟩ := h.blk
  exact ⟨⟨es, clock, (hb.block B hB).trans h1, h2⟩, h.len⟩
theorem MapW.grown {w w' : World} {B : Nat} {row : Option Nat} {kv : KV} (h : MapW w B kv) (hb : w.grownBy w' row) (hB : some B ≠ row) : MapW w' B kv := by
  have hlt := h.lt
  obtain ⟨es, clock, h1, h2⟩ := h.blk
  exact ⟨⟨es, clock, (hb.block B hlt hB).trans h1, h2⟩, h.len⟩
theorem MapW.alloc {w : World} {B : Nat} {kv : KV} (h : MapW w B kv) (o : Obj) : MapW (w.alloc o) B kv := by
  have hlt := h.lt
  obtain ⟨es, clock, h1, h2⟩ := h.blk
  exact ⟨⟨es, clock, (Below.heap_alloc w o B hlt).trans h1, h2⟩, h.len⟩
theorem MapW.new (w : World) : MapW (w.alloc (.map #[] 0)) w.heap.size [] :=
  ⟨⟨#[], 0, heap_alloc_new w _, rfl⟩, fun p hp => by cases hp⟩

set_option maxRecDepth 100000 in
theorem run_check (w : World) (em : Bool) (L : List UInt8) (h : L.length = 32) : (Instr.checkKey em 10000 29 (.agg (bcells L))).run Try.prog w = .ok () w := by
  rw [show (10000 : Nat) = 9999 + 1 from rfl, Instr.checkKey]
  cases hq5 : Try.prog.info? 5 with
  | none => have := info5; rw [hq5] at this; cases this
  | some i5 =>
    simp only [Sem.run_bind, run_underlying Try.underlying29, Result.andThen_ok]
    simp only [Std.Legacy.Range.forIn_eq_forIn_range', Std.Legacy.Range.size, Nat.sub_zero, Nat.add_one_sub_one, Nat.div_one]
    have each : ∀ i ∈ List.range' 0 32, i < L.length := fun i hi => by
      have := List.mem_range'_1.1 hi
      omega
    generalize List.range' 0 32 = is at each
    induction is with
    | nil => simp
    | cons j is ih =>
      have h1 : j < L.length := each j (by simp)
      have p1 : (part 5 (bcells L) (j * 1)).run Try.prog w = .ok (B L[j]) w := by
        rw [Nat.mul_one]; exact run_part_plain (w := w) plain5 (by simp [bcells, h1])
      have p2 : (Instr.checkKey em 9999 5 (B L[j])).run Try.prog w = .ok () w := MapKept.run_checkKey Try.underlying5 (by simp [MapKept.IsKey]) em 9998
      simp only [List.forIn_cons, Sem.run_bind, run_sizeOf w hq5, cells5, Result.andThen_ok, p1, p2, Sem.run_pure]
      exact ih (fun y hy => each y (by simp [hy]))

set_option maxRecDepth 100000 in
theorem run_ask (w : World) (L : List UInt8) (hL : L.length = 32) : ∀ (es : List MapEntry) (kv : KV) (i : Nat), es.map (fun e => (e.key, e.val)) = kv.map HV → (∀ p ∈ kv, p.1.length = 32) →
    (findL kv L = none → (Instr.findAsking 29 (.agg (bcells L)) es i).run Try.prog w = .ok none w) ∧
    (∀ s, findL kv L = some s → ∃ j, (Instr.findAsking 29 (.agg (bcells L)) es i).run Try.prog w = .ok (some (j, .string s)) w)
  | [], [], i, _, _ => ⟨fun _ => rfl, fun s h => by cases h⟩
  | [], p :: kv, i, h, _ => by cases h
  | e :: es, [], i, h, _ => by cases h
  | e :: es, p :: kv, i, h, hl => by
    rw [List.map_cons, List.map_cons] at h
    injection h with h1 h2
    have hk : e.key = .agg (bcells p.1) := congrArg Prod.fst h1
    have hv : e.val = .string p.2 := congrArg Prod.snd h1
    have hp := hl p (by simp)
    have he : (Op.equal 29 (.agg (bcells L)) e.key).run Try.prog w = .ok (decide (L = p.1)) w := by
      rw [hk]
      exact run_equal_bytes w L p.1 hL hp
    have ih := run_ask w L hL es kv (i + 1) h2 (fun q hq => hl q (List.mem_cons_of_mem _ hq))
    rw [findL_cons]
    by_cases hx : p.1 = L
    · rw [if_pos hx]
      refine ⟨fun h => (by cases h), fun s hs => ⟨i, ?_⟩⟩
      injection hs with hs
      rw [Instr.findAsking]
      simp only [Sem.run_bind, he, Result.andThen_ok, decide_eq_true hx.symm, if_true, Sem.run_pure, hv, hs]
    · rw [if_neg hx]
      have e1 : (Instr.findAsking 29 (.agg (bcells L)) (e :: es) i).run Try.prog w = (Instr.findAsking 29 (.agg (bcells L)) es (i + 1)).run Try.prog w := by
        rw [Instr.findAsking]
        simp only [Sem.run_bind, he, Result.andThen_ok, decide_eq_false (fun e => hx (Eq.symm e)), Bool.false_eq_true, if_false]
      rw [e1]
      exact ih
theorem run_key (w : World) (L : List UInt8) (hL : L.length = 32) (es : List MapEntry) (kv : KV) (h : es.map (fun e => (e.key, e.val)) = kv.map HV) (hl : ∀ p ∈ kv, p.1.length = 32) :
    (findL kv L = none → (Instr.findKey 29 (.agg (bcells L)) es).run Try.prog w = .ok none w) ∧
    (∀ s, findL kv L = some s → ∃ j, (Instr.findKey 29 (.agg (bcells L)) es).run Try.prog w = .ok (some (j, .string s)) w) := by
  have ha := run_ask w L hL es kv 0 h hl
  cases es with
  | nil =>
    cases kv with
    | nil => exact ⟨fun _ => by simp [Instr.findKey, Instr.findNow, run_underlying Try.underlying29], fun s h => by cases h⟩
    | cons p kv => cases h
  | cons e es =>
    have e1 : (Instr.findKey 29 (.agg (bcells L)) (e :: es)).run Try.prog w = (Instr.findAsking 29 (.agg (bcells L)) (e :: es) 0).run Try.prog w := by
      unfold Instr.findKey
      simp only [Sem.run_bind, run_underlying Try.underlying29, Result.andThen_ok, Instr.findNow, Instr.sameNow]
    rw [e1]
    exact ha

theorem under97 : Try.prog.underlying 97 = some (.map 29 9) := by kernel_rfl
theorem zero9 (w : World) : (zeroValue 9).run Try.prog w = .ok (.string ⟨#[]⟩) w := by kernel_rfl
/-- v, is := m[h]. -/
theorem MapW.lookup {w : World} {B : Nat} {kv : KV} (h : MapW w B kv) (L : List UInt8) (hL : L.length = 32) :
    (Instr.lookup 97 (.map (some B)) (.agg (bcells L)) true).run Try.prog w = .ok (.tuple #[.string ((findL kv L).getD ⟨#[]⟩), .bool (findL kv L).isSome]) w := by
  obtain ⟨es, clock, hb, he⟩ := h.blk
  have hk := run_key w L hL es.toList kv he h.len
  cases hq : findL kv L with
  | none =>
    simp [Instr.lookup, run_underlying under97, MapKept.run_getObj_map hb, run_check w _ L hL, hk.1 hq, zero9, Result.andThen]
  | some s =>
    obtain ⟨j, hj⟩ := hk.2 s hq
    simp [Instr.lookup, run_underlying under97, MapKept.run_getObj_map hb, run_check w _ L hL, hj, Result.andThen]
/-- m[h] = d, where h is new. -/
theorem MapW.update {w : World} {B : Nat} {kv : KV} (h : MapW w B kv) (L : List UInt8) (hL : L.length = 32) (d : ByteArray) (hn : findL kv L = none) :
    ∃ w', (Instr.mapUpdate 97 (.map (some B)) (.agg (bcells L)) (.string d)).run Try.prog w = .ok () w' ∧ MapW w' B (kv ++ [(L, d)]) ∧ w.grownBy w' (some B) ∧ w'.heap.size = w.heap.size := by
  obtain ⟨es, clock, hb, he⟩ := h.blk
  have hk := (run_key w L hL es.toList kv he h.len).1 hn
  refine ⟨ChangeMaps.setBlock w B (.map (es.push { key := .agg (bcells L), val := .string d, born := clock }) (clock + 1)), ?_, ⟨⟨_, _, ChangeMaps.heap_setBlock_same hb _, ?_⟩, ?_⟩, ⟨rfl, rfl, rfl, by simp [ChangeMaps.setBlock], fun i _ hi => ChangeMaps.heap_setBlock_other hb _ (fun e => hi (by rw [e]))⟩, by simp [ChangeMaps.setBlock]⟩
  · simp [Instr.mapUpdate, run_underlying under97, MapKept.run_getObj_map hb, run_check w _ L hL, hk, MapKept.run_setObj_map _ hb, Result.andThen, ChangeMaps.setBlock]
  · rw [Array.toList_push, List.map_append, List.map_append, he]; rfl
  · intro p hp
    rcases List.mem_append.1 hp with hp | hp
    · exact h.len p hp
    · rw [List.mem_singleton.1 hp]; exact hL
theorem MapW.runLen {w : World} {B : Nat} {kv : KV} (h : MapW w B kv) (ty : TypeId) : (Builtin.len_ #[97] ty #[.map (some B)]).run Try.prog w = .ok (.int .i64 (kv.length : Int)) w := by
  obtain ⟨es, clock, hb, he⟩ := h.blk
  have hl : es.size = kv.length := by
    have := congrArg List.length he
    simpa using this
  simp [Builtin.len_, run_underlying under97, MapKept.run_getObj_map hb, Result.andThen, hl, goInt]
end Go.Proofs.Ytmhbkilpllgchaa
