/- The reference's store of objects: Put. -/
import Derived.Test.YtmhbkilpllgchaaObjJ
import Derived.Test.YtmhbkilpllgchaaRegT
namespace Go.Proofs.Ytmhbkilpllgchaa
open Go.RowKit BigFrame
set_option linter.unusedVariables false
set_option linter.unusedSimpArgs false

def z33 : Array Value := z32.push (.string ⟨#[]⟩)
theorem info107 : (Try.prog.info? 107).map (fun i => (i.zero, i.size, i.bytes)) = some (some (.agg z33), 33, 48) := by kernel_rfl
theorem under100 : Try.prog.underlying 100 = some (.slice 107) := by kernel_rfl
set_option maxRecDepth 100000 in
theorem built107 : ∀ (L : List UInt8) (h : L.length = 32) (s : ByteArray), Try.prog.built 107 [(0, .agg (bcells L)), (1, .string s)] = some ((bcells L).push (.string s))
  | [b0, b1, b2, b3, b4, b5, b6, b7, b8, b9, b10, b11, b12, b13, b14, b15, b16, b17, b18, b19, b20, b21, b22, b23, b24, b25, b26, b27, b28, b29, b30, b31], _, s => by kernel_rfl
set_option maxRecDepth 100000 in
theorem filled107 : ∀ (L : List UInt8) (h : L.length = 32) (s : ByteArray), Instr.fill (fun i => some (i * 33, 33)) ((Array.range (1 * 33)).map ((Value.agg z33).cells[· % (Value.agg z33).cells.size]!)) [(0, .agg ((bcells L).push (.string s)))] = some ((bcells L).push (.string s))
  | [b0, b1, b2, b3, b4, b5, b6, b7, b8, b9, b10, b11, b12, b13, b14, b15, b16, b17, b18, b19, b20, b21, b22, b23, b24, b25, b26, b27, b28, b29, b30, b31], _, s => by kernel_rfl
theorem build107 (L : List UInt8) (h : L.length = 32) (s : ByteArray) (w : World) : (Instr.build 107 #[(0, .agg (bcells L)), (1, .string s)]).run Try.prog w = .ok (.agg ((bcells L).push (.string s))) w := run_build w 107 _ _ (built107 L h s)
theorem buildS100 (L : List UInt8) (h : L.length = 32) (s : ByteArray) (w : World) : (Instr.buildSlice 100 1 #[(0, .agg ((bcells L).push (.string s)))]).run Try.prog w = .ok (.slice (some ⟨w.heap.size, 0, none⟩) 1 1) (w.alloc (.cells ((bcells L).push (.string s)) 107)) := by
  obtain ⟨i0, hi0, hz0, hz1, hz2⟩ := info_parts info107
  refine run_buildSlice w 100 107 1 _ _ i0 _ under100 hi0 hz0 (by rw [hz1]; decide) (by rw [hz1]; decide) ?_
  rw [hz1]
  exact filled107 L h s

theorem grown_row1 (w : World) (g : Nat) (cs : Array Value) : w.grownBy (w.setRow g cs) (some g) := ⟨rfl, rfl, rfl, by simp, fun k _ hk => setRow_other w g k cs (fun e => hk (by rw [e]))⟩
theorem kcells_agg (L : List UInt8) (s : ByteArray) : ((bcells L).push (.string s)).toList = kcells (L, s) := by rw [Array.toList_push]; rfl
theorem kcells_one (L : List UInt8) (s : ByteArray) : ∀ u ∈ kcells (L, s), u.oneCell' = true := fun u hu => by
  rcases List.mem_append.1 hu with h | h
  · obtain ⟨b, _, rfl⟩ := List.mem_map.1 (show u ∈ L.map B by simpa [bcells] using h)
    rfl
  · rw [List.mem_singleton.1 h]; rfl
theorem src_kv {w : World} {g : Nat} {L : List UInt8} (hL : L.length = 32) {s : ByteArray} (h : Blk w g 107 ((bcells L).push (.string s))) : Src Try.prog 33 100 (.slice (some ⟨g, 0, none⟩) 1 1) 1 (kcells (L, s)) w := by
  refine Src.ofSlice _ under100 _ 1 1 _ (by rw [kcells_length (p := (L, s)) hL]) (fun j u hu => ?_) (kcells_one L s)
  rw [Addr.add_mid, Nat.zero_add, h.cell, ← hu, ← kcells_agg, Array.getElem?_toList]

/-- All that is not the reference's store's own is as it was. -/
def RefKeeps (w w' : World) (Br : Nat) : Prop := ∀ i, i < w.heap.size → i ≠ Br → (∀ p n c, w.cell? ⟨Br, 1, none⟩ = some (.slice p n c) → (Value.slice p n c).ownBlock ≠ some i) → w'.heap[i]? = w.heap[i]?
theorem RefKeeps.of {w w' : World} {Br : Nat} (h : Below w.heap.size w w') : RefKeeps w w' Br := fun i hi _ _ => h.block i hi

section
variable {w : World} {base Br most : Nat} {kv : KV} (h : RefAt w base Br most kv) (s : ByteArray) (hs : s.size ≤ 140737488351232)
include h hs
set_option maxRecDepth 100000 in
set_option maxHeartbeats 2000000 in
theorem rput_big (hb : 4096 < s.size) : Calls Try.prog 57 #[.pointer (some ⟨Br, 0, none⟩), .string s] w fun e w' => e = .returned (.tuple #[.agg (bcells zeros32), .int .i64 1100]) ∧ RefAt w' base Br most kv ∧ Below w.heap.size w w' := by
  have hL : Blk (w.alloc (.cells z32 29)) w.heap.size 29 z32 := Blk.new _ _ _
  have hb1 : Below w.heap.size w ((w.alloc (.cells z32 29)).setRow w.heap.size z32) := below_setRow ((Below.refl _ _).alloc (Nat.le_refl _) _) (Nat.le_refl _) _
  have hb' : (4096 : Int) < (s.size : Int) := by omega
  have hst := h.below hb1
  have H := Lib.hid (And.intro hst hb1)
  clear h hst hb hb1
  go_enter Try.func57, Try.ntmps57
  go_wp2_with (first
    | (refine wpList_alN (d := 4) z32 zero29 w.heap.size rfl ?_; simp only [List.setIfInBounds_toArray, List.set_cons_succ, List.set_cons_zero])
    | (refine wpList_bd (d := 12) z32 (by kernel_rfl) (wpList_st_row w.heap.size z32 rfl rfl 29 z32 hL (by rw [size29]; rfl) rfl (by kernel_rfl) ?_); simp only [List.setIfInBounds_toArray, List.set_cons_succ, List.set_cons_zero]))
  refine bodyPost_ret (results_row_slot rfl _ _ w.heap.size 29 z32 (0, 0) _ rfl (hL.row _) Try.underlying29 rfl (by rw [size29]; rfl)) rfl ⟨by rw [zeros32, ← z32_cells]; rfl, H.out⟩

set_option maxRecDepth 100000 in
set_option maxHeartbeats 4000000 in
theorem rput_small (hb : s.size ≤ 4096) : Calls Try.prog 57 #[.pointer (some ⟨Br, 0, none⟩), .string s] w fun e w' => e = .returned (.tuple #[.agg (bcells (putH most kv s)), .int .i64 (putE most kv s)]) ∧ RefAt w' base Br most (putK most kv s) ∧ Below base w w' ∧ RefKeeps w w' Br := by
  obtain ⟨H, eH⟩ : ∃ H, H = objH s := ⟨_, rfl⟩
  have hHl : H.length = 32 := by rw [eH]; exact objH_length s
  have hL1 : Blk (w.alloc (.cells z32 29)) w.heap.size 29 z32 := Blk.new _ _ _
  have hb1 : Below w.heap.size w (w.alloc (.cells z32 29)) := (Below.refl _ _).alloc (Nat.le_refl _) _
  have s1 : (w.alloc (.cells z32 29)).heap.size = w.heap.size + 1 := by simp
  have hc := obj_any s (w.alloc (.cells z32 29)) hs
  rw [← eH] at hc
  have hb' : (s.size : Int) ≤ 4096 := by omega
  have hbb : ¬ 4096 < s.size := by omega
  have hbse : base ≤ w.heap.size := by have := h.ge; have := h.lt; omega
  have hBrL := h.lt
  unfold putH putE putK
  rw [if_neg hbb, if_neg hbb, if_neg hbb, ← eH]
  have hget : ∀ w', RefAt w' base Br most kv → Calls Try.prog 62 #[.pointer (some ⟨Br, 0, none⟩), .agg (bcells H)] w' fun e w'' => e = .returned (.tuple #[.string (getS kv H), .int .i64 (getE kv H)]) ∧ Below w'.heap.size w' w'' := fun w' h' => rget_any h' H hHl
  unfold getE at hget
  obtain ⟨GS, eGS⟩ : ∃ S, S = getS kv H := ⟨_, rfl⟩
  rw [← eGS] at hget
  clear eGS
  have C := Lib.hid (And.intro hc (And.intro h (And.intro eH (And.intro hHl (And.intro hL1 (And.intro hb1 s1))))))
  have hfew := h.few
  have htop := h.top
  clear hc h eH hHl hL1 hb1 s1 hb hbb hs
  cases hq : findL kv H
  case' none => rcases Nat.lt_or_ge kv.length most with hroom | hroom
  all_goals
    rw [hq] at hget
    have CG := Lib.hid hget
    clear hget
    go_enter Try.func57, Try.ntmps57
    go_wp2_with (refine wpList_alN (d := 4) z32 zero29 w.heap.size rfl ?_; simp only [List.setIfInBounds_toArray, List.set_cons_succ, List.set_cons_zero])
    refine C.out.1.mono ?_
    rintro e w2 ⟨rfl, hb2⟩
    have hL1 := C.out.2.2.2.2.1
    have hb1 := C.out.2.2.2.2.2.1
    have s1 := C.out.2.2.2.2.2.2
    have hHl := C.out.2.2.2.1
    rw [s1] at hb2
    have hs2 := hb2.size
    rw [s1] at hs2
    have hL2 := hL1.below hb2 (by omega)
    have hbw2 := hb1.trans (hb2.mono (by omega))
    clear hb2 hb1 hL1 s1
    have hG0 : Blk (w2.alloc (.cells z32 29)) w2.heap.size 29 z32 := Blk.new _ _ _
    have hG3 : Blk ((w2.alloc (.cells z32 29)).setRow w2.heap.size (bcells H)) w2.heap.size 29 (bcells H) := hG0.row _
    have hL3 : Blk ((w2.alloc (.cells z32 29)).setRow w2.heap.size (bcells H)) w.heap.size 29 z32 := (hL2.alloc _).rowFar (by omega) _
    have hb3 : Below w.heap.size w ((w2.alloc (.cells z32 29)).setRow w2.heap.size (bcells H)) := below_setRow (hbw2.alloc (by omega) _) (by omega) _
    go_wp2_with (first
      | (refine wpList_alN (d := 6) z32 zero29 w2.heap.size rfl (wpList_st_row w2.heap.size (bcells H) rfl rfl 29 z32 hG0 (by rw [size29, bcells_size, hHl]) (by rw [bcells_size, hHl]; rfl) (bcells_one _) ?_); simp only [List.setIfInBounds_toArray, List.set_cons_succ, List.set_cons_zero])
      | (refine wpList_ld_row (d := 17) w2.heap.size _ rfl 29 hG3 Try.underlying29 rfl (by rw [size29, bcells_size, hHl]) ?_; simp only [List.setIfInBounds_toArray, List.set_cons_succ, List.set_cons_zero]))
    obtain ⟨w3, e3⟩ : ∃ w3, w3 = (w2.alloc (.cells z32 29)).setRow w2.heap.size (bcells H) := ⟨_, rfl⟩
    obtain ⟨G, eG⟩ : ∃ G, G = w2.heap.size := ⟨_, rfl⟩
    have hGL : w.heap.size < G := by omega
    rw [← e3] at hG3 hL3 hb3 ⊢
    rw [← eG] at hG3 ⊢
    clear e3 eG hG0 hbw2 hL2 hs2
    have hr3 : RefAt w3 base Br most kv := C.out.2.1.below hb3
    refine (CG.out w3 hr3).mono ?_
    rintro e w4 ⟨rfl, hb34⟩
    have hr4 := hr3.below hb34
    have hG4 := hG3.below hb34 hG3.lt
    have hL4 := hL3.below hb34 hL3.lt
    have hb4 : Below w.heap.size w w4 := hb3.trans (hb34.mono hb3.size)
    clear hb34 hr3 hG3 hL3 hb3
    clear w3
  · have hne : ((kv.length : Int) == (most : Int)) = false := by rw [beq_eq_false_iff_ne]; omega
    obtain ⟨p, c, hB, hR, hnb⟩ := C.out.2.1.ex
    have hB4 := hB.below hb4 hB.lt
    have hR4 := hR.kept (grown_below hb4 (Nat.le_refl _) none) (by cases (Value.slice p kv.length c).ownBlock <;> simp)
    have hlto : ∀ g, (Value.slice p kv.length c).ownBlock = some g → g < w.heap.size := fun g e => (hR.lt g e).2
    have HCB := Lib.hid (show w.cell? ⟨Br, 1, none⟩ = some (.slice p kv.length c) from hB.cell 1)
    clear hB hR
    have hlen := hr4.len
    have hge := hr4.ge
    obtain ⟨n, en⟩ : ∃ n, n = kv.length := ⟨_, rfl⟩
    rw [← en] at hB4 hR4 hne hnb hlto HCB
    have EN := Lib.hid en
    obtain ⟨xs, exs⟩ : ∃ xs, xs = kv.flatMap kcells := ⟨_, rfl⟩
    rw [← exs] at hR4
    have EXS := Lib.hid exs
    have hn : n < most := by omega
    clear hroom hfew hr4 en exs
    go_upto_region 7 with fail
    have hc0 : ∀ x, (later w4 x).cell? ⟨Br, 0, none⟩ = some (.int .i64 (most : Int)) := fun x => (hB4.below (later_below _ x) hB4.lt).cell 0
    have hc1 : ∀ x, (later w4 x).cell? ⟨Br, 1, none⟩ = some (.slice p n c) := fun x => (hB4.below (later_below _ x) hB4.lt).cell 1
    refine wp_region_later (by kernel_rfl) (by kernel_rfl) ?_
    repeat (go_big_quiet_step (fail))
    refine wpQuiet_nil ?_
    rintro _ ⟨x, rfl⟩
    have hbx := later_below w4 x
    have hB5 := hB4.below hbx hB4.lt
    have hR5 := hR4.kept (grown_below hbx (Nat.le_refl _) none) (by cases (Value.slice p n c).ownBlock <;> simp)
    have hG5 := hG4.below hbx hG4.lt
    have hL5 := hL4.below hbx hL4.lt
    have hb5 : Below w.heap.size w (later w4 x) := hb4.trans (hbx.mono (Nat.le_of_lt hL4.lt))
    obtain ⟨w5, e5⟩ : ∃ w5, w5 = later w4 x := ⟨_, rfl⟩
    rw [← e5] at hB5 hR5 hG5 hL5 hb5 ⊢
    clear e5 hc0 hc1 hB4 hR4 hG4 hL4 hb4 hbx x
    clear w4
    go_upto_region 9 with fail
    obtain ⟨C33, eC⟩ : ∃ C, C = (bcells H).push (.string s) := ⟨_, rfl⟩
    have hbd : ∀ w', (Instr.build 107 #[(0, .agg (bcells H)), (1, .string s)]).run Try.prog w' = .ok (.agg C33) w' := fun w' => by rw [eC]; exact build107 H hHl s w'
    have hbs : ∀ w', (Instr.buildSlice 100 1 #[(0, .agg C33)]).run Try.prog w' = .ok (.slice (some ⟨w'.heap.size, 0, none⟩) 1 1) (w'.alloc (.cells C33 107)) := fun w' => by rw [eC]; exact buildS100 H hHl s w'
    have EC := Lib.hid eC
    have HBD := Lib.hid (And.intro hbd hbs)
    clear eC hbd hbs
    refine wp_region_take (fun w' => w'.cell? ⟨Br, 1, none⟩ = some (.slice p n c) ∧ Blk w' G 29 (bcells H)) [0, 1, 2, 3, 4, 5, 6, 7] [8, 9] 10 (by kernel_rfl) (by kernel_rfl) (by intro c a d v w h; dsimp (config := { zetaDelta := true }) only [Exit.then, bodyPost] at h ⊢; cases d <;> exact h) ⟨hB5.cell 1, hG5.drew⟩ ?_
    simp only [pick, List.filterMap_cons, List.getElem?_cons_succ, List.getElem?_cons_zero, List.filterMap_nil, List.drop_succ_cons, List.drop_zero]
    repeat (first
      | (refine wpTake_row (d := 42) G (bcells H) 29 rfl (fun w' h => h.2) Try.underlying29 rfl (by rw [size29, bcells_size, hHl]) ?_; simp only [List.setIfInBounds_toArray, List.set_cons_succ, List.set_cons_zero])
      | (refine wpTake_build (d := 44) #[(0, .agg (bcells H)), (1, .string s)] _ (by rw [List.map_toArray]; rfl) HBD.out.1 ?_; simp only [List.setIfInBounds_toArray, List.set_cons_succ, List.set_cons_zero])
      | (apply wpTake_step; (focus (intro w' hS; have hc1 := hS.1; clear hS; go_simp; (try with_reducible rfl))); simp only [List.setIfInBounds_toArray, List.set_cons_succ, List.set_cons_zero]))
    refine wpTake_nil ?_
    have hL6 := hL5.drew
    have hG6 := hG5.drew
    have hB6 := hB5.drew
    have hR6 := hR5.drew
    have hb6 : Below w.heap.size w w5.drew := hb5.drew
    obtain ⟨w6, e6⟩ : ∃ w6, w6 = w5.drew := ⟨_, rfl⟩
    rw [← e6] at hL6 hG6 hB6 hR6 hb6 ⊢
    clear e6
    have hGo : ∀ g, (Value.slice p n c).ownBlock = some g → g ≠ G ∧ g ≠ w.heap.size := fun g e => by have := hlto g e; omega
    have hBr6 : Br < w.heap.size := hBrL
    clear hB5 hR5 hG5 hL5 hb5
    obtain ⟨i0, hi0, hz0, hz1, hz2⟩ := info_parts info107
    have b1 : n + 1 ≤ maxLen := by simp only [maxLen]; omega
    have b2 : (n + 1) * 48 ≤ 140737488355328 := by omega
    have hB7 := hB6.alloc (.cells C33 107)
    have hR7 := hR6.alloc (.cells C33 107)
    have hG7 := hG6.alloc (.cells C33 107)
    have hL7 := hL6.alloc (.cells C33 107)
    have hb7 : Below w.heap.size w (w6.alloc (.cells C33 107)) := hb6.alloc hb6.size _
    have hsrc : Src Try.prog 33 100 (.slice (some ⟨w6.heap.size, 0, none⟩) 1 1) 1 (kcells (H, s)) (w6.alloc (.cells C33 107)) := src_kv hHl (by rw [← EC.out]; exact Blk.new w6 107 C33)
    refine wpOp_buildS #[(0, .agg C33)] _ rfl (by rw [List.map_toArray]; rfl) (HBD.out.2 w6) ⟨⟨hB7.cell 1, hG7⟩, ?_⟩
    simp only [List.setIfInBounds_toArray, List.set_cons_succ, List.set_cons_zero]
    refine wpOp_app rfl base 107 i0 (.agg z33) 33 48 under100 hi0 hz0 hz1 hz2 rfl (.slice p n c) n xs rfl hR7 _ 1 _ rfl hsrc b1 b2 (Nat.le_trans hbse hb7.size) ?_
    intro p8 c8 w8 hR8 hg8 hat8
    have hB8 := hB7.grown hg8 (fun e => hnb e.symm)
    have hG8 := hG7.grown hg8 (fun e => (hGo _ e.symm).1 rfl)
    have hL8 := hL7.grown hg8 (fun e => (hGo _ e.symm).2 rfl)
    have hb8 : Below base w w8 := (hb7.mono hbse).grown hg8 (Nat.le_trans hbse hb7.size) (fun g e => (hR7.lt g e).1)
    refine ⟨⟨hB8.cell 1, hG8⟩, wpMem_nil ?_⟩
    simp only [List.setIfInBounds_toArray, List.set_cons_succ, List.set_cons_zero]
    have hcB := hB8.cell 1
    have hfB := hB8.frozen 1
    have hgt : ¬ most ≤ kv.length := by have := EN.out; omega
    have hGB : G ≠ Br := by omega
    have hLB : w.heap.size ≠ Br := by omega
    have hG9 := hG8.far (p := ⟨Br, 1, none⟩) hGB (.slice p8 (n + 1) c8)
    have hL9 := hL8.far (p := ⟨Br, 1, none⟩) hLB (.slice p8 (n + 1) c8)
    have hB9 := hB8.set_ 1 (.slice p8 (n + 1) c8)
    have hown : ∀ g, (Value.slice p8 (n + 1) c8).ownBlock = some g → g ≠ Br ∧ g ≠ w.heap.size := fun g e => by
      have hs7 := hb7.size
      rcases hat8 with h | h
      · rw [h] at e
        have := hlto g e
        refine ⟨fun e2 => hnb (by rw [e, e2]), by omega⟩
      · rw [h] at e
        have e2 := Option.some.inj e
        have hs := hb6.size
        have hsa : (w6.alloc (.cells C33 107)).heap.size = w6.heap.size + 1 := by simp
        omega
    have hR9 := hR8.kept (grown_setCell (⟨rfl, rfl, rfl, Nat.le_refl _, fun i _ _ => rfl⟩ : w8.grownBy w8 (some Br)) (p := ⟨Br, 1, none⟩) rfl (.slice p8 (n + 1) c8)) (.inr (fun e => (hown _ e).1 rfl))
    have hb9 : Below base w (w8.setCell ⟨Br, 1, none⟩ (.slice p8 (n + 1) c8)) := hb8.trans ⟨rfl, rfl, rfl, by simp [World.setCell], fun i hi => Below.heap_setCell w8 _ _ i (by show i ≠ Br; omega)⟩
    have hkp : ∀ i, i < w.heap.size → (Value.slice p n c).ownBlock ≠ some i → w8.heap[i]? = w.heap[i]? := fun i hi hne => (hg8.block i (Nat.lt_of_lt_of_le hi hb7.size) (fun e => hne e.symm)).trans (hb7.block i hi)
    have HKP := Lib.hid hkp
    clear hkp
    have HF := Lib.hid (And.intro hR9 (And.intro hb9 (And.intro hown hB9)))
    clear hR9 hb9 hown hB9 hR8 hB8 hb8 hat8 hg8 hG8 hL8 hsrc hb7 hB7 hR7 hG7 hL7 hb6 hB6 hR6 hG6 hL6
    go_wp2_with (first
      | (refine wpList_ld_row (d := 49) G _ rfl 29 hG9 Try.underlying29 rfl (by rw [size29, bcells_size, hHl]) ?_; simp only [List.setIfInBounds_toArray, List.set_cons_succ, List.set_cons_zero])
      | (refine wpList_st_row w.heap.size (bcells H) rfl rfl 29 z32 hL9 (by rw [size29, bcells_size, hHl]) (by rw [bcells_size, hHl]; rfl) (bcells_one _) ?_))
    refine bodyPost_ret (results_row_slot rfl _ _ w.heap.size 29 (bcells H) (0, 0) _ rfl (hL9.row _) Try.underlying29 rfl (by rw [size29, bcells_size, hHl])) rfl ⟨?_, ?_, ?_, ?_⟩
    · rfl
    · skip
      have hl : (kv ++ [(H, s)]).length = n + 1 := by rw [List.length_append, EN.out]; rfl
      have hx : (kv ++ [(H, s)]).flatMap kcells = xs ++ kcells (H, s) := by rw [List.flatMap_append, EXS.out]; simp
      refine ⟨⟨p8, c8, ?_, ?_, ?_⟩, hge, ?_, htop, by rw [hl]; exact hn⟩
      · rw [hl]; exact HF.out.2.2.2.rowFar (Ne.symm hLB) _
      · rw [hl, hx]
        exact HF.out.1.kept (grown_row1 _ w.heap.size (bcells H)) (.inr (fun e => (HF.out.2.2.1 _ e).2 rfl))
      · rw [hl]; exact fun e => (HF.out.2.2.1 _ e).1 rfl
      · intro q hq
        rcases List.mem_append.1 hq with h | h
        · exact hlen q h
        · rw [List.mem_singleton.1 h]; exact hHl
    · exact below_setRow HF.out.2.1 hbse _
    · intro i hi hiB hio
      refine (setRow_other _ w.heap.size i _ (by omega)).trans ((Below.heap_setCell w8 ⟨Br, 1, none⟩ _ i hiB).trans ?_)
      exact HKP.out i hi (hio p n c HCB.out)
  · have hne : ((kv.length : Int) == (most : Int)) = true := by rw [beq_iff_eq]; omega
    obtain ⟨p, c, hB, hR, hnb⟩ := C.out.2.1.ex
    have hB4 := hB.below hb4 hB.lt
    clear hB hR hnb
    obtain ⟨n, en⟩ : ∃ n, n = kv.length := ⟨_, rfl⟩
    rw [← en] at hB4 hne
    have EN := Lib.hid en
    have hn : most ≤ n := by omega
    clear hfew hr4 en
    go_upto_region 7 with fail
    have hc0 : ∀ x, (later w4 x).cell? ⟨Br, 0, none⟩ = some (.int .i64 (most : Int)) := fun x => (hB4.below (later_below _ x) hB4.lt).cell 0
    have hc1 : ∀ x, (later w4 x).cell? ⟨Br, 1, none⟩ = some (.slice p n c) := fun x => (hB4.below (later_below _ x) hB4.lt).cell 1
    refine wp_region_later (by kernel_rfl) (by kernel_rfl) ?_
    repeat (go_big_quiet_step (fail))
    refine wpQuiet_nil ?_
    rintro _ ⟨x, rfl⟩
    have hbx := later_below w4 x
    have hL5 := hL4.below hbx hL4.lt
    have hb5 : Below w.heap.size w (later w4 x) := hb4.trans (hbx.mono (Nat.le_of_lt hL4.lt))
    obtain ⟨w5, e5⟩ : ∃ w5, w5 = later w4 x := ⟨_, rfl⟩
    rw [← e5] at hL5 hb5 ⊢
    clear e5 hc0 hc1 hB4 hL4 hG4 hb4 hbx x
    clear w4
    go_wp2_with (refine wpList_bd (d := 36) z32 (by kernel_rfl) (wpList_st_row w.heap.size z32 rfl rfl 29 z32 hL5 (by rw [size29]; rfl) rfl (by kernel_rfl) ?_); simp only [List.setIfInBounds_toArray, List.set_cons_succ, List.set_cons_zero])
    have hb6 : Below w.heap.size w (w5.setRow w.heap.size z32) := below_setRow hb5 (Nat.le_refl _) _
    refine bodyPost_ret (results_row_slot rfl _ _ w.heap.size 29 z32 (0, 0) _ rfl (hL5.row _) Try.underlying29 rfl (by rw [size29]; rfl)) rfl ⟨by rw [zeros32, ← z32_cells]; rfl, C.out.2.1.below hb6, hb6.mono hbse, .of hb6⟩
  · go_wp2_with (first
      | (refine wpList_ld_row (d := 24) G _ rfl 29 hG4 Try.underlying29 rfl (by rw [size29, bcells_size, hHl]) ?_; simp only [List.setIfInBounds_toArray, List.set_cons_succ, List.set_cons_zero])
      | (refine wpList_st_row w.heap.size (bcells H) rfl rfl 29 z32 hL4 (by rw [size29, bcells_size, hHl]) (by rw [bcells_size, hHl]; rfl) (bcells_one _) ?_))
    have hb5 : Below w.heap.size w (w4.setRow w.heap.size (bcells H)) := below_setRow hb4 (Nat.le_refl _) _
    refine bodyPost_ret (results_row_slot rfl _ _ w.heap.size 29 (bcells H) (0, 0) _ rfl (hL4.row _) Try.underlying29 rfl (by rw [size29, bcells_size, hHl])) rfl ⟨rfl, C.out.2.1.below hb5, hb5.mono hbse, .of hb5⟩
end
theorem rput_any {w : World} {base Br most : Nat} {kv : KV} (h : RefAt w base Br most kv) (s : ByteArray) (hs : s.size ≤ 140737488351232) :
    Calls Try.prog 57 #[.pointer (some ⟨Br, 0, none⟩), .string s] w fun e w' => e = .returned (.tuple #[.agg (bcells (putH most kv s)), .int .i64 (putE most kv s)]) ∧ RefAt w' base Br most (putK most kv s) ∧ Below base w w' ∧ RefKeeps w w' Br := by
  by_cases hb : 4096 < s.size
  · have hbse : base ≤ w.heap.size := by have := h.ge; have := h.lt; omega
    have := rput_big h s hs hb
    unfold putH putE putK
    rw [if_pos hb, if_pos hb, if_pos hb]
    exact this.mono fun e w' ⟨h1, h2, h3⟩ => ⟨h1, h2, h3.mono hbse, .of h3⟩
  · exact rput_small h s hs (by omega)
end Go.Proofs.Ytmhbkilpllgchaa
