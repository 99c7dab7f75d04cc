/- object.New, Len, Get. -/
import Derived.Test.YtmhbkilpllgchaaObjA
namespace Go.Proofs.Ytmhbkilpllgchaa
open Go.RowKit BigFrame
set_option linter.unusedVariables false
set_option linter.unusedSimpArgs false

/-- A look-up in a quiet head. -/
theorem wpQuiet_lk {P : Program} {ops : Array Oper} {C : World → Prop} {Q : Act → Prop} {a : Act} {rest : List Oper} {t : TypeId} {m x : Operand} {d : Nat} {ot : TypeId} {pos : String} {after : Array Edge} (mv key v : Value)
    (hm : a.eval m = mv) (hx : a.eval x = key) (hw : ∀ w, C w → (Instr.lookup t mv key true).run P w = .ok v w)
    (h : wpQuiet P ops C Q rest ⟨a.tmps.setIfInBounds d v, a.defers⟩) : wpQuiet P ops C Q (⟨some d, .lookup t m x true, ot, pos, after, none⟩ :: rest) a := by
  refine wpQuiet_step fun K hK => ?_
  rw [if_pos (show Region.wanted ⟨some d, .lookup t m x true, ot, pos, after, none⟩ (yielded ops a.tmps) = true from rfl)]
  refine ⟨v, fun w hC => ?_, hK _ h⟩
  unfold Oper.quietAt execOp
  simp only [hm, hx, Sem.run_bind, Sem.run_pure, Result.andThen_ok, hw w hC]
  exact ⟨rfl, rfl⟩
/-- A store, and what it holds. -/
structure StoreAt (w : World) (Bs Bm most : Nat) (kv : KV) : Prop where
  blk : Blk w Bs 99 #[.int .i64 (most : Int), .map (some Bm)]
  map : MapW w Bm kv
  top : most ≤ 1024
  few : kv.length ≤ most
theorem StoreAt.ne {w : World} {Bs Bm most : Nat} {kv : KV} (h : StoreAt w Bs Bm most kv) : Bs ≠ Bm := by
  intro e
  obtain ⟨es, clock, hb, _⟩ := h.map.blk
  have := h.blk
  rw [Blk, e, hb] at this
  cases this
theorem StoreAt.grown {w w' : World} {Bs Bm most : Nat} {kv : KV} {row : Option Nat} (h : StoreAt w Bs Bm most kv) (hg : w.grownBy w' row) (h1 : some Bs ≠ row) (h2 : some Bm ≠ row) : StoreAt w' Bs Bm most kv :=
  ⟨h.blk.grown hg h1, h.map.grown hg h2, h.top, h.few⟩
theorem StoreAt.below {w w' : World} {Bs Bm most : Nat} {kv : KV} (h : StoreAt w Bs Bm most kv) (hb : Below w.heap.size w w') : StoreAt w' Bs Bm most kv :=
  ⟨h.blk.below hb h.blk.lt, h.map.below hb h.map.lt, h.top, h.few⟩
theorem under59 : Try.prog.underlying 59 = some (.pointer 99) := by kernel_rfl

set_option maxRecDepth 100000 in
set_option maxHeartbeats 2000000 in
theorem onew_no (m : Int) (w : World) (h : m < 1 ∨ 1024 < m) :
    Calls Try.prog 53 #[.int .i64 m] w fun e w' => e = .returned (.tuple #[.pointer none, .int .i64 1100]) ∧ w = w' := by
  rcases (show m < 1 ∨ (1 ≤ m ∧ 1024 < m) by omega) with h | ⟨h1, h2⟩
  all_goals
    go_enter Try.func53, Try.ntmps53
    go_wp2
    exact bodyPost_ret (v := .tuple #[.pointer none, .int .i64 1100]) (by simp [results, Try.f53, go_sem]) rfl ⟨rfl, rfl⟩
set_option maxRecDepth 100000 in
set_option maxHeartbeats 2000000 in
theorem onew_yes (m : Nat) (w : World) (h1 : 1 ≤ m) (h2 : m ≤ 1024) :
    Calls Try.prog 53 #[.int .i64 (m : Int)] w fun e w' => ∃ Bs Bm, e = .returned (.tuple #[.pointer (some ⟨Bs, 0, none⟩), .int .i64 0]) ∧ StoreAt w' Bs Bm m [] ∧ w.heap.size ≤ Bs ∧ w.heap.size ≤ Bm ∧ Below w.heap.size w w' := by
  have g1 : (1 : Int) ≤ (m : Int) := by omega
  have g2 : (m : Int) ≤ 1024 := by omega
  have hmm := @run_makeMap Try.prog
  go_enter Try.func53, Try.ntmps53
  go_wp2
  refine bodyPost_ret (v := .tuple #[.pointer (some ⟨w.heap.size + 1, 0, none⟩), .int .i64 0]) (by simp [results, Try.f53, go_sem]) rfl ?_
  have hnew : Blk ((w.alloc (.map #[] 0)).alloc (.cells #[.int .i64 (m : Int), .map (some w.heap.size)] 99)) (w.heap.size + 1) 99 #[.int .i64 (m : Int), .map (some w.heap.size)] := by
    have := Blk.new (w.alloc (.map #[] 0)) 99 #[.int .i64 (m : Int), .map (some w.heap.size)]
    rwa [show (w.alloc (.map #[] 0)).heap.size = w.heap.size + 1 by simp] at this
  refine ⟨w.heap.size + 1, w.heap.size, rfl, ⟨hnew, ?_, h2, by simp⟩, ?_, ?_, ?_⟩
  · exact (MapW.new w).alloc _
  · simp
  · simp
  · exact ((Below.refl _ _).alloc (Nat.le_refl _) _).alloc (by simp) _

set_option maxRecDepth 100000 in
set_option maxHeartbeats 2000000 in
theorem olen_any {w : World} {Bs Bm most : Nat} {kv : KV} (h : StoreAt w Bs Bm most kv) :
    Calls Try.prog 63 #[.pointer (some ⟨Bs, 0, none⟩)] w fun e w' => e = .returned (.int .i64 (kv.length : Int)) ∧ w = w' := by
  have hc1 : w.cell? ⟨Bs, 1, none⟩ = some (.map (some Bm)) := h.blk.cell 1
  have hln := fun ty => h.map.runLen ty
  go_enter Try.func63, Try.ntmps63
  go_wp2
  go_ret
  exact ⟨rfl, rfl⟩

def getS (kv : KV) (L : List UInt8) : ByteArray := (findL kv L).getD ⟨#[]⟩
def getE (kv : KV) (L : List UInt8) : Int := if (findL kv L).isSome then 0 else 1101

set_option maxRecDepth 100000 in
set_option maxHeartbeats 2000000 in
theorem oget_any {w : World} {Bs Bm most : Nat} {kv : KV} (h : StoreAt w Bs Bm most kv) (L : List UInt8) (hL : L.length = 32) :
    Calls Try.prog 61 #[.pointer (some ⟨Bs, 0, none⟩), .agg (bcells L)] w fun e w' => e = .returned (.tuple #[.string (getS kv L), .int .i64 (getE kv L)]) ∧ Below w.heap.size w w' := by
  have hb1 : Below w.heap.size w (w.alloc (.cells (bcells L) 29)) := (Below.refl _ _).alloc (Nat.le_refl _) _
  have hst := h.below hb1
  have hD : Blk (w.alloc (.cells (bcells L) 29)) w.heap.size 29 (bcells L) := Blk.new _ _ _
  have HL := Lib.hid hL
  have hc1 : ∀ x, (later (w.alloc (.cells (bcells L) 29)) x).cell? ⟨Bs, 1, none⟩ = some (.map (some Bm)) := fun x => (hst.below (later_below _ x)).blk.cell 1
  have hlk : ∀ x, (Instr.lookup 97 (.map (some Bm)) (.agg (bcells L)) true).run Try.prog (later (w.alloc (.cells (bcells L) 29)) x) = .ok (.tuple #[.string ((findL kv L).getD ⟨#[]⟩), .bool (findL kv L).isSome]) (later (w.alloc (.cells (bcells L) 29)) x) := fun x => (hst.below (later_below _ x)).map.lookup L hL
  have HLK := Lib.hid (And.intro hst (And.intro hD hlk))
  clear hst hD hlk
  unfold getS getE
  cases hq : findL kv L
  all_goals
    rw [hq] at HLK
    go_enter Try.func61, Try.ntmps61
    go_wp2_with fail
    obtain ⟨w1, e1⟩ : ∃ w1, w1 = w.alloc (.cells (bcells L) 29) := ⟨_, rfl⟩
    rw [← e1] at hb1 hc1 HLK ⊢
    obtain ⟨G, eG⟩ : ∃ G, G = w.heap.size := ⟨_, rfl⟩
    have hGw : G ≤ w1.heap.size := by rw [eG]; exact hb1.size
    rw [← eG] at hb1 HLK ⊢
    clear e1
    have hb1' : Below G w w1 := hb1
    refine wp_region_later (by kernel_rfl) (by kernel_rfl) ?_
    repeat (first
      | (refine wpQuiet_ld_g (d := 15) G 0 (bcells L).toList rfl rfl (by rintro _ ⟨x, rfl⟩; exact range_of_blk (HLK.out.2.1.below (later_below w1 x) HLK.out.2.1.lt)) Try.underlying29 rfl (by rw [size29, Array.length_toList, bcells_size, HL.out]) ?_; simp only [List.setIfInBounds_toArray, List.set_cons_succ, List.set_cons_zero, Array.toArray_toList])
      | (refine wpQuiet_lk (d := 16) (.map (some Bm)) (.agg (bcells L)) _ rfl rfl (by rintro _ ⟨x, rfl⟩; exact HLK.out.2.2 x) ?_; simp only [List.setIfInBounds_toArray, List.set_cons_succ, List.set_cons_zero, Option.getD_some, Option.getD_none, Option.isSome_some, Option.isSome_none])
      | (go_big_quiet_step (fail)))
    refine wpQuiet_nil ?_
    rintro _ ⟨x, rfl⟩
    have hbx := hb1'.trans ((later_below w1 x).mono hGw)
    go_wp2
  · exact bodyPost_ret (v := .tuple #[.string ⟨#[]⟩, .int .i64 1101]) (by simp [results, Try.f61, go_sem]) rfl ⟨rfl, by rw [← eG]; exact hbx⟩
  · exact bodyPost_ret (v := .tuple #[.string _, .int .i64 0]) (by simp [results, Try.f61, go_sem]) rfl ⟨rfl, by rw [← eG]; exact hbx⟩
end Go.Proofs.Ytmhbkilpllgchaa
