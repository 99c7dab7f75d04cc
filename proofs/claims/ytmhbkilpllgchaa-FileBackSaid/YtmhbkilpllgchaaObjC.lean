/- object.Store's Put. -/
import Derived.Test.YtmhbkilpllgchaaObjB
namespace Go.Proofs.Ytmhbkilpllgchaa
open Go.RowKit BigFrame
set_option linter.unusedVariables false
set_option linter.unusedSimpArgs false

theorem grown_then {a b c : World} {row : Option Nat} (h : a.grownBy b row) (k : Below a.heap.size b c) : a.grownBy c row :=
  ⟨k.os.trans h.os, k.tape.trans h.tape, k.output.trans h.output, Nat.le_trans h.size k.size, fun i hi hr => (k.block i hi).trans (h.block i hi hr)⟩
theorem wpList_mu {P : Program} {ops : Array Oper} {rest : List Oper} {a : Act} {w w' : World} {Q : Exit → Act → World → Prop} {t : TypeId} {m x v : Operand} {ot : TypeId} {pos : String} {after : Array Edge} (mv key val : Value)
    (hm : a.eval m = mv) (hx : a.eval x = key) (hv : a.eval v = val) (hrun : (Instr.mapUpdate t mv key val).run P w = .ok () w') (h : wpList P ops Q rest a w') : wpList P ops Q (⟨none, .mapUpdate t m x v, ot, pos, after, none⟩ :: rest) a w := by
  refine wpList_plain rfl fun K' hK' => ?_
  unfold Oper.wp
  simp [execOp, hm, hx, hv, hrun, Result.andThen]
  exact hK' _ _ h
def zeros32 : List UInt8 := List.replicate 32 0
def putH (most : Nat) (kv : KV) (s : ByteArray) : List UInt8 :=
  if 4096 < s.size then zeros32 else if (findL kv (objH s)).isSome then objH s else if most ≤ kv.length then zeros32 else objH s
def putE (most : Nat) (kv : KV) (s : ByteArray) : Int :=
  if 4096 < s.size then 1100 else if (findL kv (objH s)).isSome then 0 else if most ≤ kv.length then 1102 else 0
def putK (most : Nat) (kv : KV) (s : ByteArray) : KV :=
  if 4096 < s.size then kv else if (findL kv (objH s)).isSome then kv else if most ≤ kv.length then kv else kv ++ [(objH s, s)]

section
variable {w : World} {Bs Bm most : Nat} {kv : KV} (h : StoreAt w Bs Bm most kv) (s : ByteArray) (hs : s.size ≤ 140737488351232)
include h hs
set_option maxRecDepth 100000 in
set_option maxHeartbeats 2000000 in
theorem put_big (hb : 4096 < s.size) : Calls Try.prog 56 #[.pointer (some ⟨Bs, 0, none⟩), .string s] w fun e w' => e = .returned (.tuple #[.agg (bcells zeros32), .int .i64 1100]) ∧ StoreAt w' Bs Bm most kv ∧ w.grownBy w' (some Bm) := by
  have hL : Blk (w.alloc (.cells z32 29)) w.heap.size 29 z32 := Blk.new _ _ _
  have hb1 : Below w.heap.size w ((w.alloc (.cells z32 29)).setRow w.heap.size z32) := below_setRow ((Below.refl _ _).alloc (Nat.le_refl _) _) (Nat.le_refl _) _
  have hb' : (4096 : Int) < (s.size : Int) := by omega
  have hst := h.below hb1
  have H := Lib.hid (And.intro h hst)
  clear h hst hb
  go_enter Try.func56, Try.ntmps56
  go_wp2_with (first
    | (refine wpList_alN (d := 4) z32 zero29 w.heap.size rfl ?_; simp only [List.setIfInBounds_toArray, List.set_cons_succ, List.set_cons_zero])
    | (refine wpList_bd (d := 18) z32 (by kernel_rfl) (wpList_st_row w.heap.size z32 rfl rfl 29 z32 hL (by rw [size29]; rfl) rfl (by kernel_rfl) ?_); simp only [List.setIfInBounds_toArray, List.set_cons_succ, List.set_cons_zero]))
  refine bodyPost_ret (results_row_slot rfl _ _ w.heap.size 29 z32 (0, 0) _ rfl (hL.row _) Try.underlying29 rfl (by rw [size29]; rfl)) rfl ⟨by rw [zeros32, ← z32_cells]; rfl, H.out.2, grown_below hb1 (Nat.le_refl _) _⟩

set_option maxRecDepth 100000 in
set_option maxHeartbeats 2000000 in
theorem put_small (hb : s.size ≤ 4096) : Calls Try.prog 56 #[.pointer (some ⟨Bs, 0, none⟩), .string s] w fun e w' => e = .returned (.tuple #[.agg (bcells (putH most kv s)), .int .i64 (putE most kv s)]) ∧ StoreAt w' Bs Bm most (putK most kv s) ∧ w.grownBy w' (some Bm) := by
  obtain ⟨H, eH⟩ : ∃ H, H = objH s := ⟨_, rfl⟩
  have hHl : H.length = 32 := by rw [eH]; exact objH_length s
  have hL1 : Blk (w.alloc (.cells z32 29)) w.heap.size 29 z32 := Blk.new _ _ _
  have hb1 : Below w.heap.size w (w.alloc (.cells z32 29)) := (Below.refl _ _).alloc (Nat.le_refl _) _
  have s1 : (w.alloc (.cells z32 29)).heap.size = w.heap.size + 1 := by simp
  have hc := hashof_any s (w.alloc (.cells z32 29)) hs
  rw [← eH] at hc
  have hb' : (s.size : Int) ≤ 4096 := by omega
  have hbb : ¬ 4096 < s.size := by omega
  have hbsl := h.blk.lt
  have hbml := h.map.lt
  unfold putH putE putK
  rw [if_neg hbb, if_neg hbb, if_neg hbb, ← eH]
  have C := Lib.hid (And.intro hc (And.intro h (And.intro eH (And.intro hHl (And.intro hL1 (And.intro hb1 s1))))))
  clear hc h eH hHl hL1 hb1 s1 hb hbb hs
  cases hq : findL kv H
  case' none => rcases Nat.lt_or_ge kv.length most with hroom | hroom
  all_goals
    go_enter Try.func56, Try.ntmps56
    go_wp2_with (refine wpList_alN (d := 4) z32 zero29 w.heap.size rfl ?_; simp only [List.setIfInBounds_toArray, List.set_cons_succ, List.set_cons_zero])
    refine C.out.1.mono ?_
    rintro e w2 ⟨rfl, hb2⟩
    obtain ⟨L, eL⟩ : ∃ L, L = w.heap.size := ⟨_, rfl⟩
    have hL1 := C.out.2.2.2.2.1
    have hb1 := C.out.2.2.2.2.2.1
    have s1 := C.out.2.2.2.2.2.2
    have hHl := C.out.2.2.2.1
    rw [s1, ← eL] at hb2
    rw [← eL] at hL1 hb1 s1 hbsl hbml
    rw [← eL]
    have hs2 := hb2.size
    rw [s1] at hs2
    have hL2 := hL1.below hb2 (by omega)
    have hbw2 := hb1.trans (hb2.mono (by omega))
    clear hb2 hb1 hL1 s1
    have hG0 : Blk (w2.alloc (.cells z32 29)) w2.heap.size 29 z32 := Blk.new _ _ _
    have hG3 : Blk ((w2.alloc (.cells z32 29)).setRow w2.heap.size (bcells H)) w2.heap.size 29 (bcells H) := hG0.row _
    have hL3 : Blk ((w2.alloc (.cells z32 29)).setRow w2.heap.size (bcells H)) L 29 z32 := (hL2.alloc _).rowFar (by omega) _
    have hb3 : Below L w ((w2.alloc (.cells z32 29)).setRow w2.heap.size (bcells H)) := below_setRow (hbw2.alloc (by omega) _) (by omega) _
    go_wp2_with (refine wpList_alN (d := 6) z32 zero29 w2.heap.size rfl (wpList_st_row w2.heap.size (bcells H) rfl rfl 29 z32 hG0 (by rw [size29, bcells_size, hHl]) (by rw [bcells_size, hHl]; rfl) (bcells_one _) ?_); simp only [List.setIfInBounds_toArray, List.set_cons_succ, List.set_cons_zero])
    obtain ⟨w3, e3⟩ : ∃ w3, w3 = (w2.alloc (.cells z32 29)).setRow w2.heap.size (bcells H) := ⟨_, rfl⟩
    rw [← e3] at hG3 hL3 hb3 ⊢
    obtain ⟨G, eG⟩ : ∃ G, G = w2.heap.size := ⟨_, rfl⟩
    have hGL : L < G := by omega
    rw [← eG] at hG3 ⊢
    clear e3 eG hG0 hbw2 hL2 hs2
    have hst3 : StoreAt w3 Bs Bm most kv := C.out.2.1.below (by rw [← eL]; exact hb3)
    have hc1 : ∀ x, (later w3 x).cell? ⟨Bs, 1, none⟩ = some (.map (some Bm)) := fun x => (hst3.below (later_below _ x)).blk.cell 1
    have hlk : ∀ x, (Instr.lookup 97 (.map (some Bm)) (.agg (bcells H)) true).run Try.prog (later w3 x) = .ok (.tuple #[.string ((findL kv H).getD ⟨#[]⟩), .bool (findL kv H).isSome]) (later w3 x) := fun x => (hst3.below (later_below _ x)).map.lookup H hHl
    rw [hq] at hlk
    have HLK := Lib.hid hlk
    clear hlk
    refine wp_region_later (by kernel_rfl) (by kernel_rfl) ?_
    repeat (first
      | (refine wpQuiet_ld_g (d := 29) G 0 (bcells H).toList rfl rfl (by rintro _ ⟨x, rfl⟩; exact range_of_blk (hG3.below (later_below w3 x) hG3.lt)) Try.underlying29 rfl (by rw [size29, Array.length_toList, bcells_size, hHl]) ?_; simp only [List.setIfInBounds_toArray, List.set_cons_succ, List.set_cons_zero, Array.toArray_toList])
      | (refine wpQuiet_lk (d := 30) (.map (some Bm)) (.agg (bcells H)) _ rfl rfl (by rintro _ ⟨x, rfl⟩; exact HLK.out x) ?_; simp only [List.setIfInBounds_toArray, List.set_cons_succ, List.set_cons_zero, Option.getD_some, Option.getD_none, Option.isSome_some, Option.isSome_none])
      | (go_big_quiet_step (fail)))
    refine wpQuiet_nil ?_
    rintro _ ⟨x, rfl⟩
    have hst4 := hst3.below (later_below w3 x)
    have hG4 := hG3.below (later_below w3 x) hG3.lt
    have hL4 := hL3.below (later_below w3 x) hL3.lt
    have hb4 : Below L w (later w3 x) := hb3.trans ((later_below w3 x).mono (Nat.le_of_lt hL3.lt))
    obtain ⟨w4, e4⟩ : ∃ w4, w4 = later w3 x := ⟨_, rfl⟩
    rw [← e4] at hst4 hG4 hL4 hb4 ⊢
    clear e4 hc1 HLK hst3 hG3 hL3 hb3 x
    clear w3
    subst eL
  · have hr : (kv.length : Int) < (most : Int) := by omega
    have hr2 : decide ((most : Int) ≤ (kv.length : Int)) = false := decide_eq_false (by omega)
    have hfew : kv.length < 1024 := by have := hst4.top; omega
    go_upto_region 8 with fail
    have hc0 : ∀ x, (later w4 x).cell? ⟨Bs, 0, none⟩ = some (.int .i64 (most : Int)) := fun x => (hst4.below (later_below _ x)).blk.cell 0
    have hc1 : ∀ x, (later w4 x).cell? ⟨Bs, 1, none⟩ = some (.map (some Bm)) := fun x => (hst4.below (later_below _ x)).blk.cell 1
    have hln : ∀ x ty, (Builtin.len_ #[97] ty #[.map (some Bm)]).run Try.prog (later w4 x) = .ok (.int .i64 (kv.length : Int)) (later w4 x) := fun x ty => (hst4.below (later_below _ x)).map.runLen ty
    refine wp_region_later (by kernel_rfl) (by kernel_rfl) ?_
    repeat (go_big_quiet_step (fail))
    refine wpQuiet_nil ?_
    rintro _ ⟨x, rfl⟩
    have hst5 := hst4.below (later_below w4 x)
    have hG5 := hG4.below (later_below w4 x) hG4.lt
    have hL5 := hL4.below (later_below w4 x) hL4.lt
    have hb5 : Below w.heap.size w (later w4 x) := hb4.trans ((later_below w4 x).mono (Nat.le_of_lt hL4.lt))
    obtain ⟨w5, e5⟩ : ∃ w5, w5 = later w4 x := ⟨_, rfl⟩
    rw [← e5] at hst5 hG5 hL5 hb5 ⊢
    clear e5 hc0 hc1 hln hst4 hG4 hL4 hb4 x
    clear w4
    go_upto_region 10 with fail
    have hc1 : ∀ x, (later w5 x).cell? ⟨Bs, 1, none⟩ = some (.map (some Bm)) := fun x => (hst5.below (later_below _ x)).blk.cell 1
    refine wp_region_later_tail 6 (by kernel_rfl) (by kernel_rfl) ?_
    simp only [List.take_succ_cons, List.take_zero, List.drop_succ_cons, List.drop_zero]
    repeat (first
      | (refine wpQuiet_ld_g (d := 50) G 0 (bcells H).toList rfl rfl (by rintro _ ⟨x, rfl⟩; exact range_of_blk (hG5.below (later_below w5 x) hG5.lt)) Try.underlying29 rfl (by rw [size29, Array.length_toList, bcells_size, hHl]) ?_; simp only [List.setIfInBounds_toArray, List.set_cons_succ, List.set_cons_zero, Array.toArray_toList])
      | (go_big_quiet_step (fail)))
    refine wpQuiet_nil ?_
    rintro _ ⟨x, rfl⟩
    have hst6 := hst5.below (later_below w5 x)
    have hG6 := hG5.below (later_below w5 x) hG5.lt
    have hL6 := hL5.below (later_below w5 x) hL5.lt
    have hb6 : Below w.heap.size w (later w5 x) := hb5.trans ((later_below w5 x).mono (Nat.le_of_lt hL5.lt))
    obtain ⟨w6, e6⟩ : ∃ w6, w6 = later w5 x := ⟨_, rfl⟩
    rw [← e6] at hst6 hG6 hL6 hb6 ⊢
    clear e6 hc1 hst5 hG5 hL5 hb5 x
    clear w5
    obtain ⟨w7, hrun, hmap, hg, hsz⟩ := hst6.map.update H hHl s hq
    refine wpList_mu (.map (some Bm)) (.agg (bcells H)) (.string s) rfl rfl rfl hrun ?_
    clear hrun
    have hLm : w.heap.size ≠ Bm := by omega
    have hGm : G ≠ Bm := by omega
    have hG7 : Blk w7 G 29 (bcells H) := hG6.grown hg (fun e => hGm (Option.some.inj e))
    have hL7 : Blk w7 w.heap.size 29 z32 := hL6.grown hg (fun e => hLm (Option.some.inj e))
    have hst7 : StoreAt w7 Bs Bm most (kv ++ [(H, s)]) := ⟨hst6.blk.grown hg (fun e => hst6.ne (Option.some.inj e)), hmap, hst6.top, by rw [List.length_append]; show kv.length + 1 ≤ most; omega⟩
    have hg7 : w.grownBy w7 (some Bm) := grown_trans (grown_below hb6 (Nat.le_refl _) _) hg
    have hb8 : Below w.heap.size w7 (w7.setRow w.heap.size (bcells H)) := below_setRow (Below.refl _ _) (Nat.le_refl _) _
    go_wp2_with (first
      | (refine wpList_ld_row (d := 52) G _ rfl 29 hG7 Try.underlying29 rfl (by rw [size29, bcells_size, hHl]) ?_; simp only [List.setIfInBounds_toArray, List.set_cons_succ, List.set_cons_zero])
      | (refine wpList_st_row w.heap.size (bcells H) rfl rfl 29 z32 hL7 (by rw [size29, bcells_size, hHl]) (by rw [bcells_size, hHl]; rfl) (bcells_one _) ?_))
    have e1 : (most ≤ kv.length) = False := by simp only [eq_iff_iff, iff_false]; omega
    refine bodyPost_ret (results_row_slot rfl _ _ w.heap.size 29 (bcells H) (0, 0) _ rfl (hL7.row _) Try.underlying29 rfl (by rw [size29, bcells_size, hHl])) rfl ⟨?_, ?_, grown_then hg7 hb8⟩
    · skip
      rfl
    · skip
      exact ⟨hst7.blk.below hb8 (by omega), hst7.map.below hb8 (by omega), hst7.top, hst7.few⟩
  · have hr : (most : Int) ≤ (kv.length : Int) := by omega
    go_upto_region 8 with fail
    have hc0 : ∀ x, (later w4 x).cell? ⟨Bs, 0, none⟩ = some (.int .i64 (most : Int)) := fun x => (hst4.below (later_below _ x)).blk.cell 0
    have hc1 : ∀ x, (later w4 x).cell? ⟨Bs, 1, none⟩ = some (.map (some Bm)) := fun x => (hst4.below (later_below _ x)).blk.cell 1
    have hln : ∀ x ty, (Builtin.len_ #[97] ty #[.map (some Bm)]).run Try.prog (later w4 x) = .ok (.int .i64 (kv.length : Int)) (later w4 x) := fun x ty => (hst4.below (later_below _ x)).map.runLen ty
    refine wp_region_later (by kernel_rfl) (by kernel_rfl) ?_
    repeat (go_big_quiet_step (fail))
    refine wpQuiet_nil ?_
    rintro _ ⟨x, rfl⟩
    have hst5 := hst4.below (later_below w4 x)
    have hG5 := hG4.below (later_below w4 x) hG4.lt
    have hL5 := hL4.below (later_below w4 x) hL4.lt
    have hb5 : Below w.heap.size w (later w4 x) := hb4.trans ((later_below w4 x).mono (Nat.le_of_lt hL4.lt))
    obtain ⟨w5, e5⟩ : ∃ w5, w5 = later w4 x := ⟨_, rfl⟩
    rw [← e5] at hst5 hG5 hL5 hb5 ⊢
    clear e5 hc0 hc1 hln hst4 hG4 hL4 hb4 x
    clear w4
    go_wp2_with (refine wpList_bd (d := 45) z32 (by kernel_rfl) (wpList_st_row w.heap.size z32 rfl rfl 29 z32 hL5 (by rw [size29]; rfl) rfl (by kernel_rfl) ?_); simp only [List.setIfInBounds_toArray, List.set_cons_succ, List.set_cons_zero])
    have hb6 : Below w.heap.size w (w5.setRow w.heap.size z32) := below_setRow hb5 (Nat.le_refl _) _
    refine bodyPost_ret (results_row_slot rfl _ _ w.heap.size 29 z32 (0, 0) _ rfl (hL5.row _) Try.underlying29 rfl (by rw [size29]; rfl)) rfl ⟨?_, ?_, grown_below hb6 (Nat.le_refl _) _⟩
    · skip
      rw [zeros32, ← z32_cells]; rfl
    · skip
      exact C.out.2.1.below hb6
  · have hb5 : Below w.heap.size w (w4.setRow w.heap.size (bcells H)) := below_setRow hb4 (Nat.le_refl _) _
    go_wp2_with (first
      | (refine wpList_ld_row (d := 52) G _ rfl 29 hG4 Try.underlying29 rfl (by rw [size29, bcells_size, hHl]) ?_; simp only [List.setIfInBounds_toArray, List.set_cons_succ, List.set_cons_zero])
      | (refine wpList_st_row w.heap.size (bcells H) rfl rfl 29 z32 hL4 (by rw [size29, bcells_size, hHl]) (by rw [bcells_size, hHl]; rfl) (bcells_one _) ?_))
    refine bodyPost_ret (results_row_slot rfl _ _ w.heap.size 29 (bcells H) (0, 0) _ rfl (hL4.row _) Try.underlying29 rfl (by rw [size29, bcells_size, hHl])) rfl ⟨rfl, C.out.2.1.below hb5, grown_below hb5 (Nat.le_refl _) _⟩
end
end Go.Proofs.Ytmhbkilpllgchaa
