/- The walk of the reference's block256, one declaration a loop. -/
import Derived.Test.YtmhbkilpllgchaaGreatDoorShaB
namespace Go.Proofs.YtmhbkilpllgchaaGreatDoor
open Go.RowKit BigFrame

/-- What is left of a row of pieces of code behind the first so many. -/
def tailOf : Nat → Code → Code
  | n + 1, .seq _ y => tailOf n y
  | _, c => c
noncomputable def code72 : Code := Tryz.f25.body.getD .skip

/-- A composite value, by name. -/
theorem wpList_bd {P : Program} {ops : Array Oper} {rest : List Oper} {a : Act} {w : World} {Q : Exit → Act → World → Prop} {t : TypeId} {parts : Array (Nat × Operand)} {d : Nat} {ot : TypeId} {pos : String} {after : Array Edge} (cells : Array Value)
    (hb : P.built t (parts.map fun (i, x) => (i, a.eval x)).toList = some cells)
    (h : wpList P ops Q rest ⟨a.tmps.setIfInBounds d (.agg cells), a.defers⟩ w) : wpList P ops Q (⟨some d, .build t parts, ot, pos, after, none⟩ :: rest) a w :=
  wpList_build rfl t parts rfl (by rw [hb]; rfl) (by rw [hb]; exact h)
/-- Eight words, so many of them added. -/
def hpart (s r : S8) (k : Nat) : Array Value := ((List.range 8).map fun i => if i < k then W (outAt s i + outAt r i) else W (outAt s i)).toArray
theorem hpart_zero (s r : S8) : hpart s r 0 = scells s := by rfl
theorem hpart_all (s r : S8) : hpart s r 8 = scells (addS s r) := by rfl
theorem hpart_at (s r : S8) (k i : Nat) (h : k ≤ i) (hk : i < 8) : (hpart s r k)[i]? = some (W (outAt s i)) := by
  have : ¬ i < k := by omega
  simp [hpart, this, hk]
theorem hpart_set (s r : S8) (k : Nat) (h : k < 8) : (hpart s r k).setIfInBounds k (W (outAt s k + outAt r k)) = hpart s r (k + 1) := by
  apply Array.ext_getElem?
  intro i
  rw [Array.getElem?_setIfInBounds]
  simp only [hpart, List.size_toArray, List.length_map, List.length_range, List.getElem?_toArray]
  by_cases e : k = i
  · subst e
    rw [if_pos rfl, if_pos (by omega)]
    simp [h]
  · rw [if_neg e]
    by_cases hi : i < 8
    · simp only [List.getElem?_map, List.getElem?_range hi, Option.map_some]
      by_cases h2 : i < k
      · rw [if_pos h2, if_pos (by omega)]
      · rw [if_neg h2, if_neg (by omega)]
    · simp [List.getElem?_eq_none (show (List.range 8).length ≤ i by simp; omega)]

set_option maxRecDepth 100000 in
set_option maxHeartbeats 3000000 in
theorem blockD (x0 x1 x3 x5 x6 x7 x8 x9 x10 x12 x13 x14 x15 x16 x17 x18 x19 x20 x21 x22 x23 x24 x25 x26 x27 x28 x29 x30 x31 x32 x33 x34 x35 x36 x37 x38 x39 x40 x41 x42 x43 x44 x45 x46 x47 x48 x49 x50 x51 x52 x53 x54 x55 x56 x57 x58 x59 x60 x61 x62 x63 x64 x65 x66 x67 x68 x69 x70 x71 x72 x73 x74 x75 x76 x77 x78 x79 x80 x81 x82 x83 x84 x85 x86 x87 x88 x89 x90 x91 x92 x93 x94 x95 x96 x97 x98 x99 x100 x101 x102 x103 x104 x105 x106 x107 x108 x109 x110 x111 x112 x113 x114 x115 x116 x117 x118 x119 x120 x121 x122 x123 x124 x125 x126 x127 x128 x129 x130 x131 x132 x133 x134 x135 x136 x137 x138 x139 x140 x141 x142 x143 x144 x145 x146 x147 x148 x149 x150 x151 x152 x153 x154 x155 x156 x157 x158 x159 x160 x161 x162 x163 x164 x165 x166 x167 x168 x169 x170 x171 x172 x173 x174 x175 x176 x177 x178 x179 x180 x181 x182 x183 x184 x185 x186 x187 x188 x189 x190 x191 x192 x193 x194 x195 x196 x197 x198 x199 x200 x201 x202 x203 x204 x205 x206 x207 x208 x209 x210 x211 : Value) (s r t : S8) (h V : Nat) (wb w : World) (hV : h + 3 < V) (HR : Hid (addS s r = t)) (hH : Blk w h 63 (scells s)) (hR : Blk w (h + 1) 63 z8) (hS : Blk w V 63 (scells r)) (hb : Below h wb w) :
    Code.wp Tryz.prog (tailOf 7 code72) (bodyPost Tryz.prog Tryz.f25 fun e w' => e = .returned (.agg (scells t)) ∧ Below h wb w') ⟨#[x0, x1, .pointer (some ⟨h, 0, none⟩), x3, .pointer (some ⟨(h + 1), 0, none⟩), x5, x6, x7, x8, x9, x10, .pointer (some ⟨V, 0, none⟩), x12, x13, x14, x15, x16, x17, x18, x19, x20, x21, x22, x23, x24, x25, x26, x27, x28, x29, x30, x31, x32, x33, x34, x35, x36, x37, x38, x39, x40, x41, x42, x43, x44, x45, x46, x47, x48, x49, x50, x51, x52, x53, x54, x55, x56, x57, x58, x59, x60, x61, x62, x63, x64, x65, x66, x67, x68, x69, x70, x71, x72, x73, x74, x75, x76, x77, x78, x79, x80, x81, x82, x83, x84, x85, x86, x87, x88, x89, x90, x91, x92, x93, x94, x95, x96, x97, x98, x99, x100, x101, x102, x103, x104, x105, x106, x107, x108, x109, x110, x111, x112, x113, x114, x115, x116, x117, x118, x119, x120, x121, x122, x123, x124, x125, x126, x127, x128, x129, x130, x131, x132, x133, x134, x135, x136, x137, x138, x139, x140, x141, x142, x143, x144, x145, x146, x147, x148, x149, x150, x151, x152, x153, x154, x155, x156, x157, x158, x159, x160, x161, x162, x163, x164, x165, x166, x167, x168, x169, x170, x171, x172, x173, x174, x175, x176, x177, x178, x179, x180, x181, x182, x183, x184, x185, x186, x187, x188, x189, x190, x191, x192, x193, x194, x195, x196, x197, x198, x199, x200, x201, x202, x203, x204, x205, x206, x207, x208, x209, x210, x211], []⟩ w := by
  conv => arg 2; whnf
  go_wp2
  obtain ⟨wx, rfl⟩ : ∃ wx : World, wx = w := ⟨_, rfl⟩
  go_loopw [17] (fun i wq => ∃ k : Nat, k ≤ 8 ∧ i = .int .i64 k ∧ Blk wq h 63 (hpart s r k) ∧ wx.grownBy wq (some h)) (fun i _ => 8 - (intOf i).toNat)
  case atStart => exact ⟨0, by omega, rfl, hH, World.grownBy.refl _ _⟩
  case round =>
    obtain ⟨k, hk, rfl, hDk, hgr⟩ := hrel
    by_cases h2 : k < 8
    · have e0 : wr.cell? ⟨h, k, none⟩ = some (W (outAt s k)) := by rw [hDk.cell]; exact hpart_at _ _ _ _ (Nat.le_refl _) h2
      have hSq : Blk wr V 63 (scells r) := hS.grown hgr (by simp; omega)
      have e1 : wr.cell? ⟨V, k, none⟩ = some (W (outAt r k)) := by rw [hSq.cell]; exact scells_at _ _ h2
      have ef := hDk.frozen k
      go_wp2
      refine wp_region_drew_tail 9 (by kernel_rfl) (by kernel_rfl) ?_
      simp only [List.take_succ_cons, List.take_zero, List.drop_succ_cons, List.drop_zero]
      repeat (go_big_quiet_step (fail))
      refine wpQuiet_nil ?_
      rintro _ ⟨nq, rfl⟩
      go_wp2
      go_roundw
      case rel => exact ⟨k + 1, by omega, by go_num, by rw [← hpart_set s r k h2]; exact (hDk.drewN nq).set_ k _, grown_setCell (grown_drewN hgr nq) rfl _⟩
      case measure => simp [intOf]; omega
    · obtain rfl : k = 8 := by omega
      have hF : hpart s r 8 = scells t := by rw [hpart_all, HR.out]
      rw [hF] at hDk
      have HF := Lib.hid hF
      clear hF
      have hRq := hR.grown hgr (by simp)
      go_wp2_with (refine wpList_ld_row (d := 211) h _ rfl 63 hDk Tryz.underlying63 rfl (by rw [size38]; rfl) (wpList_st_row (h + 1) (scells t) rfl rfl 63 z8 hRq (by rw [size38]; rfl) rfl (scells_one _) ?_); simp only [List.setIfInBounds_toArray, List.set_cons_succ, List.set_cons_zero])
      refine bodyPost_ret (results_cell_row rfl _ _ (h + 1) 63 _ (0, 0) _ rfl (hRq.row _) Tryz.underlying63 rfl (by rw [size38]; rfl)) rfl ⟨rfl, below_setRow (hb.trans ?_) (by omega) _⟩
      have hh := hH.lt
      exact ⟨hgr.os, hgr.tape, hgr.output, hgr.size, fun i hi => hgr.block i (by omega) (by simp; omega)⟩

set_option maxRecDepth 100000 in
set_option maxHeartbeats 3000000 in
theorem blockC (x0 x1 x3 x7 x8 x9 x10 x11 x12 x13 x14 x15 x16 x17 x18 x19 x20 x21 x22 x23 x24 x25 x26 x27 x28 x29 x30 x31 x32 x33 x34 x35 x36 x37 x38 x39 x40 x41 x42 x43 x44 x45 x46 x47 x48 x49 x50 x51 x52 x53 x54 x55 x56 x57 x58 x59 x60 x61 x62 x63 x64 x65 x66 x67 x68 x69 x70 x71 x72 x73 x74 x75 x76 x77 x78 x79 x80 x81 x82 x83 x84 x85 x86 x87 x88 x89 x90 x91 x92 x93 x94 x95 x96 x97 x98 x99 x100 x101 x102 x103 x104 x105 x106 x107 x108 x109 x110 x111 x112 x113 x114 x115 x116 x117 x118 x119 x120 x121 x122 x123 x124 x125 x126 x127 x128 x129 x130 x131 x132 x133 x134 x135 x136 x137 x138 x139 x140 x141 x142 x143 x144 x145 x146 x147 x148 x149 x150 x151 x152 x153 x154 x155 x156 x157 x158 x159 x160 x161 x162 x163 x164 x165 x166 x167 x168 x169 x170 x171 x172 x173 x174 x175 x176 x177 x178 x179 x180 x181 x182 x183 x184 x185 x186 x187 x188 x189 x190 x191 x192 x193 x194 x195 x196 x197 x198 x199 x200 x201 x202 x203 x204 x205 x206 x207 x208 x209 x210 x211 : Value) (s t : S8) (f : Nat → UInt8) (HT : Hid (addS s (roundsS f s 64) = t)) (h : Nat) (wb w : World) (hH : Blk w h 63 (scells s)) (hR : Blk w (h + 1) 63 z8) (hK : Blk w (h + 2) 86 kw) (hW : Blk w (h + 3) 86 (swk f 64)) (hb : Below h wb w) :
    Code.wp Tryz.prog (tailOf 5 code72) (bodyPost Tryz.prog Tryz.f25 fun e w' => e = .returned (.agg (scells t)) ∧ Below h wb w') ⟨#[x0, x1, .pointer (some ⟨h, 0, none⟩), x3, .pointer (some ⟨(h + 1), 0, none⟩), .pointer (some ⟨(h + 2), 0, none⟩), .pointer (some ⟨(h + 3), 0, none⟩), x7, x8, x9, x10, x11, x12, x13, x14, x15, x16, x17, x18, x19, x20, x21, x22, x23, x24, x25, x26, x27, x28, x29, x30, x31, x32, x33, x34, x35, x36, x37, x38, x39, x40, x41, x42, x43, x44, x45, x46, x47, x48, x49, x50, x51, x52, x53, x54, x55, x56, x57, x58, x59, x60, x61, x62, x63, x64, x65, x66, x67, x68, x69, x70, x71, x72, x73, x74, x75, x76, x77, x78, x79, x80, x81, x82, x83, x84, x85, x86, x87, x88, x89, x90, x91, x92, x93, x94, x95, x96, x97, x98, x99, x100, x101, x102, x103, x104, x105, x106, x107, x108, x109, x110, x111, x112, x113, x114, x115, x116, x117, x118, x119, x120, x121, x122, x123, x124, x125, x126, x127, x128, x129, x130, x131, x132, x133, x134, x135, x136, x137, x138, x139, x140, x141, x142, x143, x144, x145, x146, x147, x148, x149, x150, x151, x152, x153, x154, x155, x156, x157, x158, x159, x160, x161, x162, x163, x164, x165, x166, x167, x168, x169, x170, x171, x172, x173, x174, x175, x176, x177, x178, x179, x180, x181, x182, x183, x184, x185, x186, x187, x188, x189, x190, x191, x192, x193, x194, x195, x196, x197, x198, x199, x200, x201, x202, x203, x204, x205, x206, x207, x208, x209, x210, x211], []⟩ w := by
  conv => arg 2; whnf
  obtain ⟨wt, rfl⟩ : ∃ wt : World, wt = w := ⟨_, rfl⟩
  obtain ⟨V, eV⟩ : ∃ V, V = wt.heap.size := ⟨_, rfl⟩
  have hV : h + 3 < V := by rw [eV]; exact hW.lt
  have hS0 : Blk (wt.alloc (.cells z8 63)) V 63 z8 := by rw [eV]; exact Blk.new _ _ _
  go_wp2_with (refine wpList_ld_row (d := 107) h (scells s) rfl 63 hH Tryz.underlying63 rfl (by rw [size38]; rfl) (wpList_alN (d := 11) z8 zero38 V eV.symm (wpList_st_row V (scells s) rfl rfl 63 z8 hS0 (by rw [size38]; rfl) rfl (scells_one s) ?_)); simp only [List.setIfInBounds_toArray, List.set_cons_succ, List.set_cons_zero])
  rename_i hcont
  obtain ⟨wv, ew⟩ : ∃ wv, wv = (wt.alloc (.cells z8 63)).setRow V (scells s) := ⟨_, rfl⟩
  rw [← ew]
  have hS : Blk wv V 63 (scells s) := by rw [ew]; exact hS0.row _
  replace hH : Blk wv h 63 (scells s) := by rw [ew]; exact (hH.alloc _).rowFar (by omega) _
  replace hR : Blk wv (h + 1) 63 z8 := by rw [ew]; exact (hR.alloc _).rowFar (by omega) _
  replace hK : Blk wv (h + 2) 86 kw := by rw [ew]; exact (hK.alloc _).rowFar (by omega) _
  replace hW : Blk wv (h + 3) 86 (swk f 64) := by rw [ew]; exact (hW.alloc _).rowFar (by omega) _
  replace hb : Below h wb wv := by rw [ew]; exact below_setRow (hb.alloc (by omega) _) (by omega) _
  have E := Lib.hid (And.intro eV ew)
  clear hS0 eV ew
  go_loopw [12] (fun i wr => ∃ k : Nat, k ≤ 64 ∧ i = .int .i64 k ∧ Blk wr V 63 (scells (roundsS f s k)) ∧ Below V wv wr) (fun i _ => 64 - (intOf i).toNat)
  case atStart => exact ⟨0, by omega, rfl, hS, Below.refl _ _⟩
  case round =>
    clear hS
    obtain ⟨k, hk, rfl, hSk, hbk⟩ := hrel
    by_cases h1 : k < 64
    · obtain ⟨r, hr⟩ : ∃ r, r = roundsS f s k := ⟨_, rfl⟩
      rw [← hr] at hSk
      have HR := Lib.hid hr
      clear hr
      have c0 : wr.cell? ⟨V, 0, none⟩ = some (W r.a) := by rw [hSk.cell]; rfl
      have c1 : wr.cell? ⟨V, 1, none⟩ = some (W r.b) := by rw [hSk.cell]; rfl
      have c2 : wr.cell? ⟨V, 2, none⟩ = some (W r.c) := by rw [hSk.cell]; rfl
      have c3 : wr.cell? ⟨V, 3, none⟩ = some (W r.d) := by rw [hSk.cell]; rfl
      have c4 : wr.cell? ⟨V, 4, none⟩ = some (W r.e) := by rw [hSk.cell]; rfl
      have c5 : wr.cell? ⟨V, 5, none⟩ = some (W r.f) := by rw [hSk.cell]; rfl
      have c6 : wr.cell? ⟨V, 6, none⟩ = some (W r.g) := by rw [hSk.cell]; rfl
      have c7 : wr.cell? ⟨V, 7, none⟩ = some (W r.h) := by rw [hSk.cell]; rfl
      have cK : wr.cell? ⟨h + 2, k, none⟩ = some (W (kAt k)) := by rw [(hK.below hbk (by omega)).cell]; exact kw_at k h1
      have cW : wr.cell? ⟨h + 3, k, none⟩ = some (W (sched f k)) := by rw [(hW.below hbk (by omega)).cell]; exact swk_at f 64 k h1 (by omega)
      go_wp2
      go_quiet ((go_at_call 49; exact Calls.quiet_of (rotx _ _ (by decide) (by decide) _)))
      go_wp2
      go_quiet (fail)
      go_wp2
      go_quiet ((go_at_call 49; exact quiet_add (rotx _ _ (by decide) (by decide) _)))
      go_wp2_with ((with_reducible refine wpList_st_row (ty := 63) V (scells (stepS r (kAt k) (sched f k))) ?_ ?_ 63 _ (hSk.drewN _) ?_ ?_ (scells_one _) ?_); (exact rfl); (exact rfl); (rw [size38]; rfl); (exact rfl))
      go_roundw
      case rel => exact ⟨k + 1, by omega, by go_num, by rw [HR.out]; exact (hSk.drewN _).row _, below_setRow (below_drewN hbk _) (by omega) _⟩
      case measure => simp [intOf]; omega
    · obtain rfl : k = 64 := by omega
      have HC := Lib.hid hcont
      clear hcont
      go_wp2
      refine HC.out _ _ ?_
      exact blockD _ _ _ _ _ _ _ _ _ _ _ _ _ _ _ _ _ _ _ _ _ _ _ _ _ _ _ _ _ _ _ _ _ _ _ _ _ _ _ _ _ _ _ _ _ _ _ _ _ _ _ _ _ _ _ _ _ _ _ _ _ _ _ _ _ _ _ _ _ _ _ _ _ _ _ _ _ _ _ _ _ _ _ _ _ _ _ _ _ _ _ _ _ _ _ _ _ _ _ _ _ _ _ _ _ _ _ _ _ _ _ _ _ _ _ _ _ _ _ _ _ _ _ _ _ _ _ _ _ _ _ _ _ _ _ _ _ _ _ _ _ _ _ _ _ _ _ _ _ _ _ _ _ _ _ _ _ _ _ _ _ _ _ _ _ _ _ _ _ _ _ _ _ _ _ _ _ _ _ _ _ _ _ _ _ _ _ _ _ _ _ _ _ _ _ _ _ _ _ _ _ _ _ _ _ _ _ _ _ s _ t h V wb wr hV HT (hH.below hbk (by omega)) (hR.below hbk (by omega)) hSk (hb.trans (hbk.mono (by omega)))

set_option maxRecDepth 100000 in
set_option maxHeartbeats 3000000 in
theorem blockB (x0 x1 x3 x7 x8 x9 x10 x11 x12 x13 x14 x15 x16 x17 x18 x19 x20 x21 x22 x23 x24 x25 x26 x27 x28 x29 x30 x31 x32 x33 x34 x35 x36 x37 x38 x39 x40 x41 x42 x43 x44 x45 x46 x47 x48 x49 x50 x51 x52 x53 x54 x55 x56 x57 x58 x59 x60 x61 x62 x63 x64 x65 x66 x67 x68 x69 x70 x71 x72 x73 x74 x75 x76 x77 x78 x79 x80 x81 x82 x83 x84 x85 x86 x87 x88 x89 x90 x91 x92 x93 x94 x95 x96 x97 x98 x99 x100 x101 x102 x103 x104 x105 x106 x107 x108 x109 x110 x111 x112 x113 x114 x115 x116 x117 x118 x119 x120 x121 x122 x123 x124 x125 x126 x127 x128 x129 x130 x131 x132 x133 x134 x135 x136 x137 x138 x139 x140 x141 x142 x143 x144 x145 x146 x147 x148 x149 x150 x151 x152 x153 x154 x155 x156 x157 x158 x159 x160 x161 x162 x163 x164 x165 x166 x167 x168 x169 x170 x171 x172 x173 x174 x175 x176 x177 x178 x179 x180 x181 x182 x183 x184 x185 x186 x187 x188 x189 x190 x191 x192 x193 x194 x195 x196 x197 x198 x199 x200 x201 x202 x203 x204 x205 x206 x207 x208 x209 x210 x211 : Value) (s t : S8) (f : Nat → UInt8) (HT : Hid (addS s (roundsS f s 64) = t)) (h : Nat) (wb w : World) (hH : Blk w h 63 (scells s)) (hR : Blk w (h + 1) 63 z8) (hK : Blk w (h + 2) 86 kw) (hW : Blk w (h + 3) 86 (swk f 16)) (hb : Below h wb w) :
    Code.wp Tryz.prog (tailOf 4 code72) (bodyPost Tryz.prog Tryz.f25 fun e w' => e = .returned (.agg (scells t)) ∧ Below h wb w') ⟨#[x0, x1, .pointer (some ⟨h, 0, none⟩), x3, .pointer (some ⟨(h + 1), 0, none⟩), .pointer (some ⟨(h + 2), 0, none⟩), .pointer (some ⟨(h + 3), 0, none⟩), x7, x8, x9, x10, x11, x12, x13, x14, x15, x16, x17, x18, x19, x20, x21, x22, x23, x24, x25, x26, x27, x28, x29, x30, x31, x32, x33, x34, x35, x36, x37, x38, x39, x40, x41, x42, x43, x44, x45, x46, x47, x48, x49, x50, x51, x52, x53, x54, x55, x56, x57, x58, x59, x60, x61, x62, x63, x64, x65, x66, x67, x68, x69, x70, x71, x72, x73, x74, x75, x76, x77, x78, x79, x80, x81, x82, x83, x84, x85, x86, x87, x88, x89, x90, x91, x92, x93, x94, x95, x96, x97, x98, x99, x100, x101, x102, x103, x104, x105, x106, x107, x108, x109, x110, x111, x112, x113, x114, x115, x116, x117, x118, x119, x120, x121, x122, x123, x124, x125, x126, x127, x128, x129, x130, x131, x132, x133, x134, x135, x136, x137, x138, x139, x140, x141, x142, x143, x144, x145, x146, x147, x148, x149, x150, x151, x152, x153, x154, x155, x156, x157, x158, x159, x160, x161, x162, x163, x164, x165, x166, x167, x168, x169, x170, x171, x172, x173, x174, x175, x176, x177, x178, x179, x180, x181, x182, x183, x184, x185, x186, x187, x188, x189, x190, x191, x192, x193, x194, x195, x196, x197, x198, x199, x200, x201, x202, x203, x204, x205, x206, x207, x208, x209, x210, x211], []⟩ w := by
  conv => arg 2; whnf
  go_wp2
  rename_i hcont
  obtain ⟨wo, rfl⟩ : ∃ wo : World, wo = w := ⟨_, rfl⟩
  go_loopw [8] (fun i wr => ∃ k : Nat, 16 ≤ k ∧ k ≤ 64 ∧ i = .int .i64 k ∧ Blk wr (h + 3) 86 (swk f k) ∧ Below (h + 3) wo wr) (fun i _ => 64 - (intOf i).toNat)
  case atStart => exact ⟨16, by omega, by omega, rfl, hW, Below.refl _ _⟩
  case round =>
    clear hW
    obtain ⟨k, hk1, hk, rfl, hBk, hbk⟩ := hrel
    by_cases h2 : k < 64
    · have hfz := hBk.frozen k
      have hcl : wr.cell? ⟨h + 3, k, none⟩ = some (W 0) := by rw [hBk.cell]; exact swk_more f k k (by omega) (by omega)
      have d15 : wr.cell? ⟨h + 3, k - 15, none⟩ = some (W (sched f (k - 15))) := by rw [hBk.cell]; exact swk_at f k _ (by omega) (by omega)
      have d2 : wr.cell? ⟨h + 3, k - 2, none⟩ = some (W (sched f (k - 2))) := by rw [hBk.cell]; exact swk_at f k _ (by omega) (by omega)
      have d16 : wr.cell? ⟨h + 3, k - 16, none⟩ = some (W (sched f (k - 16))) := by rw [hBk.cell]; exact swk_at f k _ (by omega) (by omega)
      have d7 : wr.cell? ⟨h + 3, k - 7, none⟩ = some (W (sched f (k - 7))) := by rw [hBk.cell]; exact swk_at f k _ (by omega) (by omega)
      have Hm := Lib.hid (sched_hi f k (by omega))
      go_wp2
      go_quiet ((go_at_call 49; exact Calls.quiet_of (rotx _ _ (by decide) (by decide) _)))
      go_wp2
      go_quiet ((go_at_call 49; exact quiet_add (rotx _ _ (by decide) (by decide) _)))
      go_wp2
      refine wp_region_drew_tail 15 (by kernel_rfl) (by kernel_rfl) ?_
      simp only [List.take_succ_cons, List.take_zero, List.drop_succ_cons, List.drop_zero]
      repeat (go_big_quiet_step (fail))
      refine wpQuiet_nil ?_
      rintro _ ⟨nr, rfl⟩
      go_wp2
      go_roundw
      case rel => exact ⟨k + 1, by omega, by omega, by go_num, by rw [← swk_set f k (by omega), Hm.out]; exact (hBk.drewN _).set_ k _, (below_drewN hbk _).setCell (p := ⟨h + 3, k, none⟩) (Nat.le_refl _) _⟩
      case measure => simp [intOf]; omega
    · obtain rfl : k = 64 := by omega
      have HC := Lib.hid hcont
      clear hcont
      go_wp2
      refine HC.out _ _ ?_
      clear HC
      exact blockC _ _ _ _ _ _ _ _ _ _ _ _ _ _ _ _ _ _ _ _ _ _ _ _ _ _ _ _ _ _ _ _ _ _ _ _ _ _ _ _ _ _ _ _ _ _ _ _ _ _ _ _ _ _ _ _ _ _ _ _ _ _ _ _ _ _ _ _ _ _ _ _ _ _ _ _ _ _ _ _ _ _ _ _ _ _ _ _ _ _ _ _ _ _ _ _ _ _ _ _ _ _ _ _ _ _ _ _ _ _ _ _ _ _ _ _ _ _ _ _ _ _ _ _ _ _ _ _ _ _ _ _ _ _ _ _ _ _ _ _ _ _ _ _ _ _ _ _ _ _ _ _ _ _ _ _ _ _ _ _ _ _ _ _ _ _ _ _ _ _ _ _ _ _ _ _ _ _ _ _ _ _ _ _ _ _ _ _ _ _ _ _ _ _ _ _ _ _ _ _ _ _ _ _ _ _ _ _ s t f HT h wb wr (hH.below hbk (by omega)) (hR.below hbk (by omega)) (hK.below hbk (by omega)) hBk (hb.trans (hbk.mono (by omega)))

set_option maxRecDepth 100000 in
set_option maxHeartbeats 3000000 in
/-- **The reference's block256.** -/
theorem block_any (bs : ByteArray) (s : S8) (wb : World) (hn : bs.size = 64) :
    Calls Tryz.prog 25 #[.agg (scells s), .string bs] wb fun e w' => e = .returned (.agg (scells (comp s (bt bs)))) ∧ Below wb.heap.size wb w' := by
  have hn' : bs.size ≤ 64 := by omega
  have hn'' : 64 ≤ bs.size := by omega
  clear hn
  obtain ⟨f, hf⟩ : ∃ f, f = bt bs := ⟨_, rfl⟩
  rw [← hf]
  have Hf := Lib.hid hf
  clear hf
  obtain ⟨t, ht⟩ : ∃ t, addS s (roundsS f s 64) = t := ⟨_, rfl⟩
  rw [comp, ht]
  have HT := Lib.hid ht
  clear ht
  obtain ⟨h, eh⟩ : ∃ h, h = wb.heap.size := ⟨_, rfl⟩
  rw [← eh]
  have b0 : Below h wb wb := Below.refl _ _
  have h1 : Blk (wb.alloc (.cells (scells s) 63)) h 63 (scells s) := by rw [eh]; exact Blk.new _ _ _
  have s1 : (wb.alloc (.cells (scells s) 63)).heap.size = h + 1 := by simp [eh]
  have b1 := b0.alloc (by omega) (.cells (scells s) 63)
  obtain ⟨w1, e1⟩ : ∃ w1, w1 = wb.alloc (.cells (scells s) 63) := ⟨_, rfl⟩
  rw [← e1] at h1 s1 b1
  have g1 : Blk (w1.alloc (.cells z8 63)) (h + 1) 63 z8 := by rw [← s1]; exact Blk.new _ _ _
  have s2 : (w1.alloc (.cells z8 63)).heap.size = h + 2 := by simp [s1]
  have b2 := b1.alloc (by omega) (.cells z8 63)
  replace h1 := h1.alloc (.cells z8 63)
  obtain ⟨w2, e2⟩ : ∃ w2, w2 = w1.alloc (.cells z8 63) := ⟨_, rfl⟩
  rw [← e2] at h1 g1 s2 b2
  have k1 : Blk (w2.alloc (.cells z64 86)) (h + 2) 86 z64 := by rw [← s2]; exact Blk.new _ _ _
  have s3 : ((w2.alloc (.cells z64 86)).setRow (h + 2) kw).heap.size = h + 3 := by simp [s2]
  have b3 := below_setRow (b2.alloc (by omega) (.cells z64 86)) (show h ≤ h + 2 by omega) kw
  replace h1 := (h1.alloc (.cells z64 86)).rowFar (show h ≠ h + 2 by omega) kw
  replace g1 := (g1.alloc (.cells z64 86)).rowFar (show h + 1 ≠ h + 2 by omega) kw
  have k2 := k1.row kw
  obtain ⟨w3, e3⟩ : ∃ w3, w3 = (w2.alloc (.cells z64 86)).setRow (h + 2) kw := ⟨_, rfl⟩
  rw [← e3] at h1 g1 s3 b3 k2
  have hW : Blk (w3.alloc (.cells z64 86)) (h + 3) 86 (swk f 0) := by rw [← s3]; exact Blk.new _ _ _
  have hb := b3.alloc (by omega) (.cells z64 86)
  have hH := h1.alloc (.cells z64 86)
  have hR := g1.alloc (.cells z64 86)
  have hK := k2.alloc (.cells z64 86)
  obtain ⟨w4, e4⟩ : ∃ w4, w4 = w3.alloc (.cells z64 86) := ⟨_, rfl⟩
  rw [← e4] at hW hb hH hR hK
  have E := Lib.hid (And.intro eh (And.intro e1 (And.intro e2 (And.intro e3 e4))))
  clear h1 g1 b1 b2 b3 b0 k2 e1 e2 e3 e4 eh
  go_enter Tryz.func25, Tryz.ntmps25
  go_wp2_with (first
    | (rw [← E.out.1, ← E.out.2.1]; refine wpList_alN (d := 4) z8 zero38 (h + 1) s1 ?_; simp only [List.setIfInBounds_toArray, List.set_cons_succ, List.set_cons_zero]; rw [← E.out.2.2.1])
    | (refine wpList_bd (d := 18) kw (by kernel_rfl) (wpList_alN (d := 5) z64 zero126 (h + 2) s2 (wpList_st_row (h + 2) kw rfl rfl 86 z64 k1 (by rw [size126, kw_size]) (by rw [kw_size]; rfl) kw_one ?_)); simp only [List.setIfInBounds_toArray, List.set_cons_succ, List.set_cons_zero]; rw [← E.out.2.2.2.1])
    | (refine wpList_alN (d := 6) z64 zero126 (h + 3) s3 ?_; simp only [List.setIfInBounds_toArray, List.set_cons_succ, List.set_cons_zero]; rw [← E.out.2.2.2.2]))
  rename_i hcont
  obtain ⟨wo, rfl⟩ : ∃ wo : World, wo = w4 := ⟨_, rfl⟩
  go_loopw [7] (fun i wr => ∃ k : Nat, k ≤ 16 ∧ i = .int .i64 k ∧ Blk wr (h + 3) 86 (swk f k) ∧ Below (h + 3) wo wr) (fun i _ => 16 - (intOf i).toNat)
  case atStart => exact ⟨0, by omega, rfl, hW, Below.refl _ _⟩
  case round =>
    clear hW
    obtain ⟨k, hk, rfl, hBk, hbk⟩ := hrel
    by_cases h1 : k < 16
    · have q0 : 4 * k < bs.size := by omega
      have q1 : 4 * k + 1 < bs.size := by omega
      have q2 : 4 * k + 2 < bs.size := by omega
      have q3 : 4 * k + 3 < bs.size := by omega
      have c0 : bt bs (4 * k) = f (4 * k) := by rw [Hf.out]
      have c1 : bt bs (4 * k + 1) = f (4 * k + 1) := by rw [Hf.out]
      have c2 : bt bs (4 * k + 2) = f (4 * k + 2) := by rw [Hf.out]
      have c3 : bt bs (4 * k + 3) = f (4 * k + 3) := by rw [Hf.out]
      have hfz := hBk.frozen k
      have hcl : wr.cell? ⟨h + 3, k, none⟩ = some (W 0) := by rw [hBk.cell]; exact swk_more f k k (by omega) (by omega)
      have Hm := Lib.hid (sched_lo f k h1)
      go_wp2
      refine wp_region_drew_tail 31 (by kernel_rfl) (by kernel_rfl) ?_
      simp only [List.take_succ_cons, List.take_zero, List.drop_succ_cons, List.drop_zero]
      repeat (go_big_quiet_step (fail))
      refine wpQuiet_nil ?_
      rintro _ ⟨nq, rfl⟩
      go_wp2
      go_roundw
      case rel => exact ⟨k + 1, by omega, by go_num, by rw [← swk_set f k (by omega), Hm.out]; exact (hBk.drewN nq).set_ k _, (below_drewN hbk nq).setCell (p := ⟨h + 3, k, none⟩) (Nat.le_refl _) _⟩
      case measure => simp [intOf]; omega
    · obtain rfl : k = 16 := by omega
      have HC := Lib.hid hcont
      clear hcont
      go_wp2
      refine HC.out _ _ ?_
      exact blockB _ _ _ _ _ _ _ _ _ _ _ _ _ _ _ _ _ _ _ _ _ _ _ _ _ _ _ _ _ _ _ _ _ _ _ _ _ _ _ _ _ _ _ _ _ _ _ _ _ _ _ _ _ _ _ _ _ _ _ _ _ _ _ _ _ _ _ _ _ _ _ _ _ _ _ _ _ _ _ _ _ _ _ _ _ _ _ _ _ _ _ _ _ _ _ _ _ _ _ _ _ _ _ _ _ _ _ _ _ _ _ _ _ _ _ _ _ _ _ _ _ _ _ _ _ _ _ _ _ _ _ _ _ _ _ _ _ _ _ _ _ _ _ _ _ _ _ _ _ _ _ _ _ _ _ _ _ _ _ _ _ _ _ _ _ _ _ _ _ _ _ _ _ _ _ _ _ _ _ _ _ _ _ _ _ _ _ _ _ _ _ _ _ _ _ _ _ _ _ _ _ _ _ _ _ _ _ _ s t f HT h wb wr (hH.below hbk (by omega)) (hR.below hbk (by omega)) (hK.below hbk (by omega)) hBk (hb.trans (hbk.mono (by omega)))
end Go.Proofs.YtmhbkilpllgchaaGreatDoor
