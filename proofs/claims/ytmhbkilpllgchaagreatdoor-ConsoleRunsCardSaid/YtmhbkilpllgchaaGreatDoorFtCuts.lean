/- ftree.cut of bytes. ftree.cut of hashes. ftree.rows over blocks. ftree.rows over hashes. -/
import Derived.Test.YtmhbkilpllgchaaGreatDoorFtB
namespace Go.Proofs.YtmhbkilpllgchaaGreatDoor
open Go.RowKit BigFrame
set_option linter.unusedVariables false
set_option linter.unusedSimpArgs false

theorem info35 : (Tryz.prog.info? 27).map (fun i => (i.zero, i.size, i.bytes)) = some (some (.slice none 0 0), 1, 24) := by kernel_rfl
theorem under113 : Tryz.prog.underlying 100 = some (.slice 27) := by kernel_rfl
/-- Slices that read as these rows of bytes, all in block D. -/
def Chunks (w : World) (D : Nat) (vs : List Value) (cs : List (List UInt8)) : Prop :=
  vs.length = cs.length ∧ ∀ i (h : i < cs.length), ∃ o q, vs[i]? = some (.slice (some ⟨D, o, none⟩) cs[i].length q) ∧ w.rangeAt D o (cs[i].map B)
theorem Chunks.nil (w : World) (D : Nat) : Chunks w D [] [] := ⟨rfl, fun i h => by cases h⟩
theorem Chunks.snoc {w : World} {D : Nat} {vs : List Value} {cs : List (List UInt8)} (h : Chunks w D vs cs) (c : List UInt8) (o q : Nat) (hr : w.rangeAt D o (c.map B)) : Chunks w D (vs ++ [.slice (some ⟨D, o, none⟩) c.length q]) (cs ++ [c]) := by
  refine ⟨by rw [List.length_append, List.length_append, h.1]; rfl, fun i hi => ?_⟩
  rw [List.length_append] at hi
  simp only [List.length_cons, List.length_nil] at hi
  by_cases g : i < cs.length
  · obtain ⟨o', q', h1, h2⟩ := h.2 i g
    refine ⟨o', q', ?_, ?_⟩
    · rw [List.getElem?_append_left (by rw [h.1]; exact g), h1, List.getElem_append_left g]
    · rw [List.getElem_append_left g]; exact h2
  · obtain rfl : i = cs.length := by omega
    refine ⟨o, q, ?_, ?_⟩
    · rw [List.getElem?_append_right (by rw [h.1]; exact Nat.le_refl _), h.1]; simp
    · simpa using hr
theorem range_drop {w : World} {D o : Nat} {l : List Value} (h : w.rangeAt D o l) (k : Nat) : w.rangeAt D (o + k) (l.drop k) := fun i v hv => by
  rw [Nat.add_assoc]
  exact h (k + i) v (by rw [← hv, List.getElem?_drop])
theorem range_take {w : World} {D o : Nat} {l : List Value} (h : w.rangeAt D o l) (k : Nat) : w.rangeAt D o (l.take k) := fun i v hv => by
  rw [List.getElem?_take] at hv
  split at hv
  · exact h i v hv
  · cases hv

set_option maxRecDepth 100000 in
set_option maxHeartbeats 4000000 in
theorem cutb_any (D o q : Nat) (L : List UInt8) (w : World) (hD : D < w.heap.size) (hx : w.rangeAt D o (L.map B)) (hq : L.length ≤ q) (hq2 : q ≤ maxLen) (hn : L.length ≤ 1000000) :
    Calls Tryz.prog 57 #[.slice (some ⟨D, o, none⟩) L.length q, .int .i64 64] w fun e w' => ∃ p m c vs, e = .returned (.slice p m c) ∧ m = (cutL 64 L).length ∧ w'.ownsRow w.heap.size 27 1 (.slice p m c) m vs ∧ Chunks w D vs (cutL 64 L) ∧ Below w.heap.size w w' := by
  obtain ⟨i0, hi0, hz0, hz1, hz2⟩ := info_parts info35
  obtain ⟨R, eR⟩ : ∃ R, R = cutL 64 L := ⟨_, rfl⟩
  rw [← eR]
  obtain ⟨r, er⟩ : ∃ r, r = L.length := ⟨_, rfl⟩
  rw [← er] at hq hn ⊢
  have HX := Lib.hid (And.intro hx (And.intro eR er))
  clear hx eR er
  go_enter Tryz.func57, Tryz.ntmps57
  go_wp2
  go_loopw [0, 5, 6] (fun t0 t5 t6 wr => ∃ (l : List UInt8) (r : Nat) (pt : Option Addr) (q m c : Nat) (p : Option Addr) (vs : List Value) (done : List (List UInt8)), t0 = .slice pt r q ∧ t5 = .slice p m c ∧ r ≤ q ∧ q ≤ maxLen ∧ m + r ≤ 1000000 ∧ wr.ownsRow w.heap.size 27 1 (.slice p m c) m vs ∧ Hid (r = l.length) ∧ Hid (0 < r → ∃ o', pt = some ⟨D, o', none⟩ ∧ w.rangeAt D o' (l.map B)) ∧ Hid (R = done ++ cutL 64 l) ∧ Hid (Chunks w D vs done) ∧ Hid (m = done.length) ∧ Below w.heap.size w wr) (fun t0 _ _ _ => match t0 with | .slice _ r _ => r | _ => 0)
  case atStart => exact ⟨L, r, some ⟨D, o, none⟩, q, 0, 0, none, [], [], rfl, rfl, hq, hq2, by omega, World.ownsRow_nil _ _ _ _, Lib.hid HX.out.2.2, Lib.hid (fun _ => ⟨o, rfl, HX.out.1⟩), Lib.hid (by rw [HX.out.2.1]; rfl), Lib.hid (Chunks.nil w D), Lib.hid rfl, Below.refl _ _⟩
  case round =>
    clear hq hq2 hn
    obtain ⟨l, r, pt, q, m, c, p, vs, done, rfl, rfl, hq, hq2, hn, hR, HR, HP, HD, HC, HM, hb⟩ := hrel
    have hq3 : q ≤ 9223372036854775807 := hq2
    by_cases h1 : 0 < r
    · obtain ⟨o', rfl, hrg⟩ := HP.out h1
      obtain ⟨k, ek⟩ : ∃ k, k = min 64 r := ⟨_, rfl⟩
      have hk1 : k ≤ r := by omega
      have hk2 : 0 < k := by omega
      have hkk : (k = r ∧ (r : Int) < 64) ∨ (k = 64 ∧ (64 : Int) < (r : Int)) ∨ (k = 64 ∧ r = 64) := by omega
      have hlne : l ≠ [] := fun e => by have := HR.out; rw [e] at this; simp at this; omega
      have htk : l.take 64 = l.take k := by
        have := HR.out
        by_cases g : 64 ≤ r
        · rw [show k = 64 by omega]
        · rw [show k = r by omega, List.take_of_length_le (by omega), List.take_of_length_le (by omega)]
      have hdk : l.drop 64 = l.drop k := by
        have := HR.out
        by_cases g : 64 ≤ r
        · rw [show k = 64 by omega]
        · rw [show k = r by omega, List.drop_of_length_le (by omega), List.drop_of_length_le (by omega)]
      have hcut := cutL_cons (k := 64) (by decide) l hlne
      rw [htk, hdk] at hcut
      have hR2 : R = (done ++ [l.take k]) ++ cutL 64 (l.drop k) := by rw [HD.out, hcut, List.append_assoc]; rfl
      have hkl : (l.take k).length = k := by rw [List.length_take, ← HR.out]; omega
      have hC2 : Chunks w D (vs ++ [.slice (some ⟨D, o', none⟩) k q]) (done ++ [l.take k]) := by
        have := HC.out.snoc (l.take k) o' q (by rw [List.map_take]; exact range_take hrg k)
        rwa [hkl] at this
      have hdl : r - k = (l.drop k).length := by rw [List.length_drop, ← HR.out]
      have hrg2 : w.rangeAt D (o' + k) ((l.drop k).map B) := by rw [List.map_drop]; exact range_drop hrg k
      have hba : Below wr.heap.size wr (wr.alloc (.cells #[.slice (some ⟨D, o', none⟩) k q] 27)) := (Below.refl _ _).alloc (Nat.le_refl _) _
      have hRa := hR.alloc (.cells #[.slice (some ⟨D, o', none⟩) k q] 27)
      have hsrc : Src Tryz.prog 1 100 (.slice (some ⟨wr.heap.size, 0, none⟩) 1 1) 1 [.slice (some ⟨D, o', none⟩) k q] (wr.alloc (.cells #[.slice (some ⟨D, o', none⟩) k q] 27)) := by
        refine Src.ofSlice _ under113 _ 1 1 _ rfl (fun j u hu => ?_) (fun u hu => by
          simp only [List.mem_cons, List.not_mem_nil, or_false] at hu
          subst hu; rfl)
        rw [Addr.add_mid, Nat.zero_add, (Blk.new wr 27 _).cell]
        simpa using hu
      have hbw := hb.size
      have hba2 := hb.trans (hba.mono hbw)
      have HF := Lib.hid (And.intro hR2 (And.intro hC2 (And.intro hdl (And.intro hrg2 (And.intro hRa (And.intro hsrc hba2))))))
      have b1 : m + 1 ≤ maxLen := by simp only [maxLen]; omega
      have b2 : (m + 1) * 24 ≤ 140737488355328 := by omega
      clear hR2 hC2 hdl hrg2 hRa hsrc hba2 hba hkl hcut hdk htk hrg ek hlne hR hb
      rcases hkk with ⟨rfl, hk3⟩ | ⟨rfl, hk3⟩ | ⟨rfl, rfl⟩
      all_goals
        go_wp2_with (at_builtin; refine wpList_app _ w.heap.size 27 i0 (.slice none 0 0) 1 24 under113 hi0 hz0 hz1 hz2 rfl (.slice p m c) m vs rfl HF.out.2.2.2.2.1 _ 1 _ rfl HF.out.2.2.2.2.2.1 b1 b2 HF.out.2.2.2.2.2.2.size ?_; intro v5 w5 hR5 hg5 _ _; obtain ⟨p5, c5, rfl⟩ := row_slice hR5; simp only [List.setIfInBounds_toArray, List.set_cons_succ, List.set_cons_zero])
        have hb5 : Below w.heap.size w w5 := HF.out.2.2.2.2.2.2.grown hg5 HF.out.2.2.2.2.2.2.size (fun g e => (HF.out.2.2.2.2.1.lt g e).1)
        have hdl := HF.out.2.2.1
        first
          | exact ⟨⟨_, 0, _, _, m + 1, c5, p5, _, _, rfl, rfl, by omega, by omega, by omega, hR5, Lib.hid (Eq.trans (by omega) hdl), Lib.hid (fun h => absurd h (Nat.lt_irrefl 0)), Lib.hid HF.out.1, Lib.hid HF.out.2.1, Lib.hid (by rw [List.length_append, ← HM.out]; rfl), hb5⟩, by first | exact hk2 | (show 0 < 64; omega)⟩
          | exact ⟨⟨_, r - 64, _, _, m + 1, c5, p5, _, _, rfl, rfl, by omega, by omega, by omega, hR5, Lib.hid hdl, Lib.hid (fun _ => ⟨_, rfl, HF.out.2.2.2.1⟩), Lib.hid HF.out.1, Lib.hid HF.out.2.1, Lib.hid (by rw [List.length_append, ← HM.out]; rfl), hb5⟩, by show r - 64 < r; omega⟩
    · obtain rfl : r = 0 := by omega
      have hl : l = [] := List.length_eq_zero_iff.1 HR.out.symm
      have hRd : R = done := by rw [HD.out, hl, cutL_nil, List.append_nil]
      have hRd2 : m = R.length ∧ Chunks w D vs R := by rw [hRd]; exact ⟨HM.out, HC.out⟩
      have HRD := Lib.hid hRd2
      clear hRd hl hRd2
      go_wp2
      go_ret
      exact ⟨p, m, c, vs, rfl, HRD.out.1, hR, HRD.out.2, hb⟩
end Go.Proofs.YtmhbkilpllgchaaGreatDoor
namespace Go.Proofs.YtmhbkilpllgchaaGreatDoor
open Go.RowKit BigFrame
set_option linter.unusedVariables false
set_option linter.unusedSimpArgs false

theorem info82 : (Tryz.prog.info? 98).map (fun i => (i.zero, i.size, i.bytes)) = some (some (.slice none 0 0), 1, 24) := by kernel_rfl
theorem under117 : Tryz.prog.underlying 104 = some (.slice 98) := by kernel_rfl
theorem hcells_cons (L : List UInt8) (hs : List (List UInt8)) : hcells (L :: hs) = (bcells L).toList ++ hcells hs := by rw [hcells, List.flatMap_cons]; rfl
theorem hcells_take : ∀ (hs : List (List UInt8)) (hl : ∀ L ∈ hs, L.length = 32) (k : Nat), hcells (hs.take k) = (hcells hs).take (k * 32)
  | [], _, k => by simp [hcells]
  | L :: hs, h, 0 => by simp [hcells]
  | L :: hs, h, k + 1 => by
    have ih := hcells_take hs (fun q hq => h q (List.mem_cons_of_mem _ hq)) k
    have hL : (bcells L).toList.length = 32 := by rw [Array.length_toList, bcells_size, h L (by simp)]
    rw [List.take_succ_cons, hcells_cons, hcells_cons, List.take_append, List.take_of_length_le (l := (bcells L).toList) (by omega), hL, show (k + 1) * 32 - 32 = k * 32 by omega, ih]
theorem hcells_drop : ∀ (hs : List (List UInt8)) (hl : ∀ L ∈ hs, L.length = 32) (k : Nat), hcells (hs.drop k) = (hcells hs).drop (k * 32)
  | [], _, k => by simp [hcells]
  | L :: hs, h, 0 => by simp [hcells]
  | L :: hs, h, k + 1 => by
    have ih := hcells_drop hs (fun q hq => h q (List.mem_cons_of_mem _ hq)) k
    have hL : (bcells L).toList.length = 32 := by rw [Array.length_toList, bcells_size, h L (by simp)]
    rw [List.drop_succ_cons, hcells_cons, List.drop_append, List.drop_of_length_le (l := (bcells L).toList) (by omega), hL, show (k + 1) * 32 - 32 = k * 32 by omega, List.nil_append, ih]
/-- Slices that read as these rows of hashes, all in block D. -/
def HChunks (w : World) (D : Nat) (vs : List Value) (cs : List (List (List UInt8))) : Prop :=
  vs.length = cs.length ∧ ∀ i (h : i < cs.length), ∃ o q, vs[i]? = some (.slice (some ⟨D, o, none⟩) cs[i].length q) ∧ w.rangeAt D o (hcells cs[i])
theorem HChunks.nil (w : World) (D : Nat) : HChunks w D [] [] := ⟨rfl, fun i h => by cases h⟩
theorem HChunks.snoc {w : World} {D : Nat} {vs : List Value} {cs : List (List (List UInt8))} (h : HChunks w D vs cs) (c : List (List UInt8)) (o q : Nat) (hr : w.rangeAt D o (hcells c)) : HChunks w D (vs ++ [.slice (some ⟨D, o, none⟩) c.length q]) (cs ++ [c]) := by
  refine ⟨by rw [List.length_append, List.length_append, h.1]; rfl, fun i hi => ?_⟩
  rw [List.length_append] at hi
  simp only [List.length_cons, List.length_nil] at hi
  by_cases g : i < cs.length
  · obtain ⟨o', q', h1, h2⟩ := h.2 i g
    refine ⟨o', q', ?_, ?_⟩
    · rw [List.getElem?_append_left (by rw [h.1]; exact g), h1, List.getElem_append_left g]
    · rw [List.getElem_append_left g]; exact h2
  · obtain rfl : i = cs.length := by omega
    refine ⟨o, q, ?_, ?_⟩
    · rw [List.getElem?_append_right (by rw [h.1]; exact Nat.le_refl _), h.1]; simp
    · simpa using hr

set_option maxRecDepth 100000 in
set_option maxHeartbeats 4000000 in
theorem cuth_any (D q : Nat) (pa : Option Addr) (L : List (List UInt8)) (w : World) (hLL : ∀ x ∈ L, x.length = 32) (hx : 0 < L.length → ∃ o, pa = some ⟨D, o, none⟩ ∧ w.rangeAt D o (hcells L)) (hq : L.length ≤ q) (hq2 : q ≤ maxLen) (hn : L.length ≤ 1000000) :
    Calls Tryz.prog 60 #[.slice pa L.length q, .int .i64 8] w fun e w' => ∃ p m c vs, e = .returned (.slice p m c) ∧ m = (cutL 8 L).length ∧ w'.ownsRow w.heap.size 98 1 (.slice p m c) m vs ∧ HChunks w D vs (cutL 8 L) ∧ Below w.heap.size w w' := by
  obtain ⟨i0, hi0, hz0, hz1, hz2⟩ := info_parts info82
  obtain ⟨R, eR⟩ : ∃ R, R = cutL 8 L := ⟨_, rfl⟩
  rw [← eR]
  obtain ⟨r, er⟩ : ∃ r, r = L.length := ⟨_, rfl⟩
  rw [← er] at hq hn ⊢
  have HX := Lib.hid (And.intro (And.intro hLL hx) (And.intro eR er))
  clear hx eR er hLL
  go_enter Tryz.func60, Tryz.ntmps60
  go_wp2
  go_loopw [0, 5, 6] (fun t0 t5 t6 wr => ∃ (l : List (List UInt8)) (r : Nat) (pt : Option Addr) (q m c : Nat) (p : Option Addr) (vs : List Value) (done : List (List (List UInt8))), t0 = .slice pt r q ∧ t5 = .slice p m c ∧ r ≤ q ∧ q ≤ maxLen ∧ m + r ≤ 1000000 ∧ wr.ownsRow w.heap.size 98 1 (.slice p m c) m vs ∧ Hid (r = l.length) ∧ Hid (∀ x ∈ l, x.length = 32) ∧ Hid (0 < r → ∃ o', pt = some ⟨D, o', none⟩ ∧ w.rangeAt D o' (hcells l)) ∧ Hid (R = done ++ cutL 8 l) ∧ Hid (HChunks w D vs done) ∧ Hid (m = done.length) ∧ Below w.heap.size w wr) (fun t0 _ _ _ => match t0 with | .slice _ r _ => r | _ => 0)
  case atStart => exact ⟨L, r, pa, q, 0, 0, none, [], [], rfl, rfl, hq, hq2, by omega, World.ownsRow_nil _ _ _ _, Lib.hid HX.out.2.2, Lib.hid HX.out.1.1, Lib.hid (fun h => HX.out.1.2 (by rw [← HX.out.2.2]; exact h)), Lib.hid (by rw [HX.out.2.1]; rfl), Lib.hid (HChunks.nil w D), Lib.hid rfl, Below.refl _ _⟩
  case round =>
    clear hq hq2 hn
    obtain ⟨l, r, pt, q, m, c, p, vs, done, rfl, rfl, hq, hq2, hn, hR, HR, HLL, HP, HD, HC, HM, hb⟩ := hrel
    have hq3 : q ≤ 9223372036854775807 := hq2
    by_cases h1 : 0 < r
    · obtain ⟨o', rfl, hrg⟩ := HP.out h1
      obtain ⟨k, ek⟩ : ∃ k, k = min 8 r := ⟨_, rfl⟩
      have hk1 : k ≤ r := by omega
      have hk2 : 0 < k := by omega
      have hkk : (k = r ∧ (r : Int) < 8) ∨ (k = 8 ∧ (8 : Int) < (r : Int)) ∨ (k = 8 ∧ r = 8) := by omega
      have hlne : l ≠ [] := fun e => by have := HR.out; rw [e] at this; simp at this; omega
      have htk : l.take 8 = l.take k := by
        have := HR.out
        by_cases g : 8 ≤ r
        · rw [show k = 8 by omega]
        · rw [show k = r by omega, List.take_of_length_le (by omega), List.take_of_length_le (by omega)]
      have hdk : l.drop 8 = l.drop k := by
        have := HR.out
        by_cases g : 8 ≤ r
        · rw [show k = 8 by omega]
        · rw [show k = r by omega, List.drop_of_length_le (by omega), List.drop_of_length_le (by omega)]
      have hcut := cutL_cons (k := 8) (by decide) l hlne
      rw [htk, hdk] at hcut
      have hR2 : R = (done ++ [l.take k]) ++ cutL 8 (l.drop k) := by rw [HD.out, hcut, List.append_assoc]; rfl
      have hkl : (l.take k).length = k := by rw [List.length_take, ← HR.out]; omega
      have hC2 : HChunks w D (vs ++ [.slice (some ⟨D, o', none⟩) k q]) (done ++ [l.take k]) := by
        have := HC.out.snoc (l.take k) o' q (by rw [hcells_take l HLL.out]; exact range_take hrg _)
        rwa [hkl] at this
      have hdl : r - k = (l.drop k).length := by rw [List.length_drop, ← HR.out]
      have hrg2 : w.rangeAt D (o' + k * 32) (hcells (l.drop k)) := by rw [hcells_drop l HLL.out]; exact range_drop hrg _
      have hLL2 : ∀ x ∈ l.drop k, x.length = 32 := fun x hx => HLL.out x (List.mem_of_mem_drop hx)
      have hba : Below wr.heap.size wr (wr.alloc (.cells #[.slice (some ⟨D, o', none⟩) k q] 98)) := (Below.refl _ _).alloc (Nat.le_refl _) _
      have hRa := hR.alloc (.cells #[.slice (some ⟨D, o', none⟩) k q] 98)
      have hsrc : Src Tryz.prog 1 104 (.slice (some ⟨wr.heap.size, 0, none⟩) 1 1) 1 [.slice (some ⟨D, o', none⟩) k q] (wr.alloc (.cells #[.slice (some ⟨D, o', none⟩) k q] 98)) := by
        refine Src.ofSlice _ under117 _ 1 1 _ rfl (fun j u hu => ?_) (fun u hu => by
          simp only [List.mem_cons, List.not_mem_nil, or_false] at hu
          subst hu; rfl)
        rw [Addr.add_mid, Nat.zero_add, (Blk.new wr 98 _).cell]
        simpa using hu
      have hbw := hb.size
      have hba2 := hb.trans (hba.mono hbw)
      have HF := Lib.hid (And.intro hR2 (And.intro hC2 (And.intro hdl (And.intro hrg2 (And.intro hRa (And.intro hsrc (And.intro hba2 hLL2)))))))
      have b1 : m + 1 ≤ maxLen := by simp only [maxLen]; omega
      have b2 : (m + 1) * 24 ≤ 140737488355328 := by omega
      clear hLL2 hR2 hC2 hdl hrg2 hRa hsrc hba2 hba hkl hcut hdk htk hrg ek hlne hR hb
      rcases hkk with ⟨rfl, hk3⟩ | ⟨rfl, hk3⟩ | ⟨rfl, rfl⟩
      all_goals
        go_wp2_with (at_builtin; refine wpList_app _ w.heap.size 98 i0 (.slice none 0 0) 1 24 under117 hi0 hz0 hz1 hz2 rfl (.slice p m c) m vs rfl HF.out.2.2.2.2.1 _ 1 _ rfl HF.out.2.2.2.2.2.1 b1 b2 HF.out.2.2.2.2.2.2.1.size ?_; intro v5 w5 hR5 hg5 _ _; obtain ⟨p5, c5, rfl⟩ := row_slice hR5; simp only [List.setIfInBounds_toArray, List.set_cons_succ, List.set_cons_zero])
        have hb5 : Below w.heap.size w w5 := HF.out.2.2.2.2.2.2.1.grown hg5 HF.out.2.2.2.2.2.2.1.size (fun g e => (HF.out.2.2.2.2.1.lt g e).1)
        have hdl := HF.out.2.2.1
        first
          | exact ⟨⟨_, 0, _, _, m + 1, c5, p5, _, _, rfl, rfl, by omega, by omega, by omega, hR5, Lib.hid (Eq.trans (by omega) hdl), Lib.hid HF.out.2.2.2.2.2.2.2, Lib.hid (fun h => absurd h (Nat.lt_irrefl 0)), Lib.hid HF.out.1, Lib.hid HF.out.2.1, Lib.hid (by rw [List.length_append, ← HM.out]; rfl), hb5⟩, by first | exact hk2 | (show 0 < 8; omega)⟩
          | exact ⟨⟨_, r - 8, _, _, m + 1, c5, p5, _, _, rfl, rfl, by omega, by omega, by omega, hR5, Lib.hid hdl, Lib.hid HF.out.2.2.2.2.2.2.2, Lib.hid (fun _ => ⟨_, rfl, HF.out.2.2.2.1⟩), Lib.hid HF.out.1, Lib.hid HF.out.2.1, Lib.hid (by rw [List.length_append, ← HM.out]; rfl), hb5⟩, by show r - 8 < r; omega⟩
    · obtain rfl : r = 0 := by omega
      have hl : l = [] := List.length_eq_zero_iff.1 HR.out.symm
      have hRd : R = done := by rw [HD.out, hl, cutL_nil, List.append_nil]
      have hRd2 : m = R.length ∧ HChunks w D vs R := by rw [hRd]; exact ⟨HM.out, HC.out⟩
      have HRD := Lib.hid hRd2
      clear hRd hl hRd2
      go_wp2
      go_ret
      exact ⟨p, m, c, vs, rfl, HRD.out.1, hR, HRD.out.2, hb⟩
end Go.Proofs.YtmhbkilpllgchaaGreatDoor
namespace Go.Proofs.YtmhbkilpllgchaaGreatDoor
open Go.RowKit BigFrame
set_option linter.unusedVariables false
set_option linter.unusedSimpArgs false

theorem cell_same {w w' : World} {b : Nat} (h : w'.heap[b]? = w.heap[b]?) (o : Nat) : w'.cell? ⟨b, o, none⟩ = w.cell? ⟨b, o, none⟩ := by
  simp [World.cell?, h]
theorem row_same {w w' : World} {base : Nat} {e : TypeId} {size n : Nat} {v : Value} {xs : List Value} (h : w.ownsRow base e size v n xs) (hk : ∀ g, v.ownBlock = some g → w'.heap[g]? = w.heap[g]?) : w'.ownsRow base e size v n xs := by
  refine ⟨h.1, ?_⟩
  rcases h.2 with h2 | ⟨g, cap, cur, rfl, hb, hh, h3, h4, h5, h6⟩
  · exact .inl h2
  · exact .inr ⟨g, cap, cur, rfl, hb, (hk g rfl).trans hh, h3, h4, h5, h6⟩
theorem LApart.same {w w' : World} {Bl i : Nat} (h : LApart w Bl i) (e : w'.heap[Bl]? = w.heap[Bl]?) : LApart w' Bl i :=
  ⟨h.ne, fun p n c g => h.row p n c ((cell_same e 0).symm.trans g), fun B g => h.map B ((cell_same e 1).symm.trans g)⟩
theorem LstAt.keep {w w' : World} {base Bl g : Nat} {all : List ByteArray} (h : LstAt w base Bl all) (hg : LApart w Bl g) (hk : ∀ i, i < w.heap.size → i ≠ g → w'.heap[i]? = w.heap[i]?) : LstAt w' base Bl all := by
  obtain ⟨p, c, sv, hB, hR, hne, hs⟩ := h.ex
  have hBg : Bl ≠ g := fun e => hg.ne e.symm
  have hRg := hg.row p _ c (hB.cell 0)
  refine ⟨⟨p, c, sv, (hk Bl hB.lt hBg).trans hB, row_same hR (fun i e => hk i (hR.lt i e).2 (fun e2 => hRg (by rw [e, e2]))), hne, ?_⟩, h.ge⟩
  rcases hs with hs | ⟨B, e, h1, h2, h3, h4⟩
  · exact .inl hs
  · exact .inr ⟨B, e, h1.same (hk B h1.lt (hg.map B (by rw [← e]; exact hB.cell 1))), h2, h3, h4⟩
theorem LKeeps.trans {a b c : World} {Bl : Nat} (h : LKeeps a b Bl) (hs : a.heap.size ≤ b.heap.size) (k : LKeeps b c Bl) : LKeeps a c Bl := fun i hi hl =>
  ⟨(k i (by omega) (h i hi hl).1).1, (k i (by omega) (h i hi hl).1).2.trans (h i hi hl).2⟩
theorem LKeeps.below {a b : World} {Bl : Nat} (hl : Bl < a.heap.size) (h : Below a.heap.size a b) : LKeeps a b Bl := fun i hi hp => ⟨hp.below hl h, h.block i hi⟩
theorem LKeeps.refl (a : World) (Bl : Nat) : LKeeps a a Bl := fun i _ h => ⟨h, rfl⟩

theorem info29 : (Tryz.prog.info? 36).map (fun i => (i.zero, i.size, i.bytes)) = some (some (.agg z32), 32, 32) := by kernel_rfl
theorem under82 : Tryz.prog.underlying 98 = some (.slice 36) := by kernel_rfl
set_option maxRecDepth 100000 in
theorem filled29 : ∀ (L : List UInt8) (h : L.length = 32), Instr.fill (fun i => some (i * 32, 32)) ((Array.range (1 * 32)).map ((Value.agg z32).cells[· % (Value.agg z32).cells.size]!)) [(0, .agg (bcells L))] = some (bcells L)
  | [b0, b1, b2, b3, b4, b5, b6, b7, b8, b9, b10, b11, b12, b13, b14, b15, b16, b17, b18, b19, b20, b21, b22, b23, b24, b25, b26, b27, b28, b29, b30, b31], _ => by kernel_rfl
theorem buildS82 (L : List UInt8) (h : L.length = 32) (w : World) : (Instr.buildSlice 98 1 #[(0, .agg (bcells L))]).run Tryz.prog w = .ok (.slice (some ⟨w.heap.size, 0, none⟩) 1 1) (w.alloc (.cells (bcells L) 36)) := by
  obtain ⟨i0, hi0, hz0, hz1, hz2⟩ := info_parts info29
  refine run_buildSlice w 98 36 1 _ _ i0 _ under82 hi0 hz0 (by rw [hz1]; decide) (by rw [hz1]; decide) ?_
  rw [hz1]
  exact filled29 L h
/-- A slice literal at the operation. -/
theorem wpList_bs {P : Program} {ops : Array Oper} {rest : List Oper} {a : Act} {w w' : World} {Q : Exit → Act → World → Prop} {d : Nat} {ty ot : TypeId} {len : Nat} {parts : Array (Nat × Operand)} {pos : String} {after : Array Edge} (vals : Array (Nat × Value)) (v : Value)
    (hx : (parts.map fun (i, x) => (i, a.eval x)) = vals) (hr : (Instr.buildSlice ty len vals).run P w = .ok v w')
    (h : wpList P ops Q rest ⟨a.tmps.setIfInBounds d v, a.defers⟩ w') : wpList P ops Q (⟨some d, .buildSlice ty len parts, ot, pos, after, none⟩ :: rest) a w := by
  refine wpList_plain rfl fun K' hK' => ?_
  unfold Oper.wp execOp
  simp only [hx, hr, Sem.run_bind, Sem.run_pure, Result.andThen_ok, Oper.upon]
  exact hK' _ _ h
theorem src_hash {w : World} {g : Nat} {L : List UInt8} (hL : L.length = 32) (h : Blk w g 36 (bcells L)) : Src Tryz.prog 32 98 (.slice (some ⟨g, 0, none⟩) 1 1) 1 (bcells L).toList w := by
  refine Src.ofSlice _ under82 _ 1 1 _ (by rw [Array.length_toList, bcells_size, hL]) (fun j u hu => ?_) (fun u hu => ?_)
  · rw [Addr.add_mid, Nat.zero_add, h.cell, ← hu, Array.getElem?_toList]
  · have : u ∈ L.map B := by simpa [bcells] using hu
    obtain ⟨b, _, rfl⟩ := List.mem_map.1 this
    rfl
theorem foldl_onceA_length : ∀ (ss all : List ByteArray), (ss.foldl onceA all).length ≤ all.length + ss.length
  | [], all => Nat.le_refl _
  | s :: ss, all => by
    have h1 := foldl_onceA_length ss (onceA all s)
    have h2 := onceA_length all s
    rw [List.foldl_cons, List.length_cons]
    omega

/-- An append onto an own row that is none of the list's: the list stays. -/
theorem list_app {w w8 w9 : World} {base Bl j c9 : Nat} {all : List ByteArray} {v : Value} {p9 : Option Addr} {xs : List Value} {cells : Array Value} {t : TypeId} (hL : LstAt w8 base Bl all) (hK : LKeeps w w8 Bl) (hb : Below base w w8) (hbse : base ≤ w.heap.size)
    (hA : ∀ g, v.ownBlock = some g → LApart w8 Bl g) {n e size : Nat} (hown : (w8.alloc (.cells cells t)).ownsRow w.heap.size e size v n xs) (hg : (w8.alloc (.cells cells t)).grownBy w9 v.ownBlock)
    (hat : (Value.slice p9 j c9).ownBlock = v.ownBlock ∨ (Value.slice p9 j c9).ownBlock = some (w8.alloc (.cells cells t)).heap.size) :
    LstAt w9 base Bl all ∧ LKeeps w w9 Bl ∧ Below base w w9 ∧ (∀ g, (Value.slice p9 j c9).ownBlock = some g → LApart w9 Bl g) ∧ w.heap.size ≤ w9.heap.size := by
  have hba : Below w8.heap.size w8 (w8.alloc (.cells cells t)) := (Below.refl _ _).alloc (Nat.le_refl _) _
  have hLa := hL.below hba
  have hKa : LKeeps w8 (w8.alloc (.cells cells t)) Bl := LKeeps.below hL.lt hba
  have hAa : ∀ g, v.ownBlock = some g → LApart (w8.alloc (.cells cells t)) Bl g := fun g e => (hA g e).below hL.lt hba
  have hlow : ∀ g, v.ownBlock = some g → w.heap.size ≤ g := fun g e => (hown.lt g e).1
  have hBl : w9.heap[Bl]? = (w8.alloc (.cells cells t)).heap[Bl]? := hg.block Bl hLa.lt (fun e => (hAa Bl e.symm).ne rfl)
  have hL9 : LstAt w9 base Bl all := by
    cases ho : v.ownBlock with
    | none => exact hLa.below ⟨hg.os, hg.tape, hg.output, hg.size, fun i hi => hg.block i hi (by rw [ho]; simp)⟩
    | some g => exact hLa.keep (hAa g ho) (fun i hi hne => hg.block i hi (by rw [ho]; intro e; exact hne (Option.some.inj e)))
  have hs8 := hb.size
  have hsa : w8.heap.size ≤ (w8.alloc (.cells cells t)).heap.size := hba.size
  refine ⟨hL9, fun i hi hl => ?_, (hb.alloc (by omega) _).grown hg (by omega) (fun g e => by have := hlow g e; omega), fun g e => ?_, by have := hg.size; omega⟩
  · obtain ⟨k1, k2⟩ := hK i hi hl
    obtain ⟨k3, k4⟩ := hKa i (by omega) k1
    exact ⟨k3.same hBl, (hg.block i (by omega) (fun e => by have := hlow i e.symm; omega)).trans (k4.trans k2)⟩
  · rcases hat with h | h
    · rw [h] at e
      exact (hAa g e).same hBl
    · rw [h] at e
      have := Option.some.inj e
      exact (LApart.new hLa (by omega)).same hBl

set_option maxRecDepth 100000 in
set_option maxHeartbeats 8000000 in
theorem rowsb_any {w : World} {base Bl D b2 m c : Nat} {all0 : List ByteArray} {p : Option Addr} {vs : List Value} {cs : List (List UInt8)} (hlst : LstAt w base Bl all0)
    (hR : w.ownsRow b2 27 1 (.slice p m c) m vs) (hC : Chunks w D vs cs) (hcs : ∀ x ∈ cs, x.length ≤ 64) (hm : m = cs.length) (hD : D < w.heap.size) (hsep : LApart w Bl D)
    (hsepR : ∀ g, (Value.slice p m c).ownBlock = some g → LApart w Bl g) (hm2 : m ≤ 1000) (hall : all0.length ≤ 10000) :
    Calls Tryz.prog 56 #[.pointer (some ⟨Bl, 0, none⟩), .slice p m c, .func (.func 58) #[] #[]] w fun e w' => ∃ p' c', e = .returned (.slice p' m c') ∧ w'.ownsRow w.heap.size 36 32 (.slice p' m c') m (hcells (cs.map fun x => objH (bT x))) ∧
      LstAt w' base Bl ((cs.map bT).foldl onceA all0) ∧ Below base w w' ∧ LKeeps w w' Bl ∧ (∀ g, (Value.slice p' m c').ownBlock = some g → LApart w' Bl g) := by
  obtain ⟨i0, hi0, hz0, hz1, hz2⟩ := info_parts info29
  have hbse : base ≤ w.heap.size := by have := hlst.ge; have := hlst.lt; omega
  have hBl := hlst.lt
  have HX := Lib.hid (And.intro hlst (And.intro hR (And.intro hC (And.intro hcs (And.intro hm (And.intro hD (And.intro hsep (And.intro hsepR hall))))))))
  clear hlst hR hC hcs hm hD hsep hsepR hall
  go_enter Tryz.func56, Tryz.ntmps56
  go_wp2
  go_loopw [7, 9, 10, 11, 12, 15] (fun t7 s0 s1 s2 s3 i wr => ∃ (j cq : Nat) (pq : Option Addr) (xs : List Value), t7 = .slice pq j cq ∧ i = .int .i64 (j : Int) ∧ j ≤ m ∧ wr.ownsRow w.heap.size 36 32 (.slice pq j cq) j xs ∧ Hid (xs = hcells ((cs.take j).map fun x => objH (bT x))) ∧ Hid (LstAt wr base Bl (((cs.take j).map bT).foldl onceA all0)) ∧ Below base w wr ∧ Hid (LKeeps w wr Bl) ∧ Hid (∀ g, (Value.slice pq j cq).ownBlock = some g → LApart wr Bl g) ∧ w.heap.size ≤ wr.heap.size) (fun _ _ _ _ _ i _ => m - (intOf i).toNat)
  case atStart => exact ⟨0, 0, none, [], rfl, rfl, by omega, World.ownsRow_nil _ _ _ _, Lib.hid (by simp [hcells]), Lib.hid (by simpa using HX.out.1), Below.refl _ _, Lib.hid (LKeeps.refl _ _), Lib.hid (fun g e => by cases e), Nat.le_refl _⟩
  case round =>
    obtain ⟨j, cq, pq, xs, rfl, rfl, hj, hQ, HXS, HL, hb, HK, HA, hsz⟩ := hrel
    by_cases h1 : j < m
    · have hjl : j < cs.length := by rw [← HX.out.2.2.2.2.1]; exact h1
      obtain ⟨g, c', e1, _, hgl, _, _⟩ := row_form HX.out.2.1 (by intro e; injection e with _ e _; omega)
      injection e1 with e1 _ e2
      subst e1; subst e2
      obtain ⟨o, q, hv, hrg⟩ := HX.out.2.2.1.2 j hjl
      obtain ⟨l, el⟩ : ∃ l, l = cs[j] := ⟨_, rfl⟩
      rw [← el] at hv hrg
      have hl64 : l.length ≤ 64 := by rw [el]; exact HX.out.2.2.2.1 _ (List.getElem_mem hjl)
      have hkg := (HK.out g hgl (HX.out.2.2.2.2.2.2.2.1 g rfl)).2
      have hkD := (HK.out D HX.out.2.2.2.2.2.1 HX.out.2.2.2.2.2.2.1).2
      have hcell : wr.cell? ⟨g, j, none⟩ = some (.slice (some ⟨D, o, none⟩) l.length q) := by
        have := HX.out.2.1.cells (g := g) rfl j _ hv
        rw [Addr.add_mid, Nat.zero_add] at this
        exact (cell_same hkg j).trans this
      have hcell2 : wr.cell? ((⟨g, 0, none⟩ : Addr).add j) = some (.slice (some ⟨D, o, none⟩) l.length q) := by
        rw [Addr.add_mid, Nat.zero_add]; exact hcell
      have hrg2 : wr.rangeAt D o (l.map B) := fun i v h => (cell_same hkD _).trans (hrg i v h)
      have EL := Lib.hid el
      obtain ⟨S, eS⟩ : ∃ S, S = bT l := ⟨_, rfl⟩
      obtain ⟨H, eH⟩ : ∃ H, H = objH S := ⟨_, rfl⟩
      have hHl : H.length = 32 := by rw [eH]; exact objH_length S
      have hSs : S.size ≤ 140737488351232 := by rw [eS, ba_list, bT]; simp; omega
      have c81 : ∀ q, Calls Tryz.prog 58 #[.slice (some ⟨D, o, none⟩) l.length q] wr fun e w' => e = .returned (.string S) ∧ wr = w' := fun q => by
        rw [eS]; exact blockf_any D o q l wr hrg2 (by omega)
      have c78 : ∀ w', Calls Tryz.prog 34 #[.string S] w' fun e w'' => e = .returned (.tuple #[.agg (bcells H), .bool (objOk S)]) ∧ Below w'.heap.size w' w'' := fun w' => by rw [eH]; exact hashof_any S w' hSs
      have hA0 := foldl_onceA_length ((cs.take j).map bT) all0
      have hlen : (((cs.take j).map bT).foldl onceA all0).length ≤ 1000000 := by
        rw [List.length_map, List.length_take] at hA0
        have := HX.out.2.2.2.2.2.2.2.2
        omega
      have c86 : ∀ w', LstAt w' base Bl (((cs.take j).map bT).foldl onceA all0) → Calls Tryz.prog 63 #[.pointer (some ⟨Bl, 0, none⟩), .string S] w' fun e w'' => e = .returned (.tuple #[]) ∧ LstAt w'' base Bl (((cs.take (j + 1)).map bT).foldl onceA all0) ∧ Below base w' w'' ∧ LKeeps w' w'' Bl := fun w' h => by
        have := ladd_any h S hlen
        rw [List.take_succ_eq_append_getElem hjl, List.map_append, List.foldl_append, ← el]
        show Calls Tryz.prog 63 _ _ fun e w'' => e = .returned (.tuple #[]) ∧ LstAt w'' base Bl (onceA _ (bT l)) ∧ Below base w' w'' ∧ LKeeps w' w'' Bl
        rw [← eS]
        exact this
      have hxs : xs ++ (bcells H).toList = hcells ((cs.take (j + 1)).map fun x => objH (bT x)) := by
        rw [List.take_succ_eq_append_getElem hjl, List.map_append, HXS.out, hcells, hcells, List.flatMap_append, ← el]
        congr 1
        show _ = List.flatMap _ [objH (bT l)]
        rw [← eS, ← eH]
        simp
      obtain ⟨K, eK⟩ : ∃ K, K = objOk S := ⟨_, rfl⟩
      rw [← eK] at c78
      have CC := Lib.hid (And.intro c81 (And.intro c78 (And.intro c86 (And.intro hxs hHl))))
      obtain ⟨ln, eln⟩ : ∃ ln, ln = l.length := ⟨_, rfl⟩
      rw [← eln] at CC hcell hcell2
      clear el eS eH eK c81 c78 c86 hxs hHl hSs hA0 hlen hv hrg hrg2 hkg hkD eln hl64
      go_wp2_with fail
      refine (CC.out.1 q).mono ?_
      rintro e _ ⟨rfl, rfl⟩
      go_wp2_with fail
      refine (CC.out.2.1 wr).mono ?_
      rintro e w6 ⟨rfl, hb6⟩
      have hX0 : Blk (w6.alloc (.cells z32 36)) w6.heap.size 36 z32 := Blk.new _ _ _
      have hX7 : Blk ((w6.alloc (.cells z32 36)).setRow w6.heap.size (bcells H)) w6.heap.size 36 (bcells H) := hX0.row _
      have hb7 : Below wr.heap.size wr ((w6.alloc (.cells z32 36)).setRow w6.heap.size (bcells H)) := below_setRow (hb6.alloc hb6.size _) hb6.size _
      have hw6 := hb6.size
      clear hcell hcell2 hb6
      go_wp2_with (refine wpList_alN (d := 11) z32 zero29 w6.heap.size rfl (wpList_st_row w6.heap.size (bcells H) rfl rfl 36 z32 hX0 (by rw [size29, bcells_size, CC.out.2.2.2.2]) (by rw [bcells_size, CC.out.2.2.2.2]; rfl) (bcells_one _) ?_); simp only [List.setIfInBounds_toArray, List.set_cons_succ, List.set_cons_zero])
      obtain ⟨w7, e7⟩ : ∃ w7, w7 = (w6.alloc (.cells z32 36)).setRow w6.heap.size (bcells H) := ⟨_, rfl⟩
      obtain ⟨X, eX⟩ : ∃ X, X = w6.heap.size := ⟨_, rfl⟩
      have hXw : wr.heap.size ≤ X := by omega
      rw [← e7] at hX7 hb7 ⊢
      rw [← eX] at hX7 ⊢
      clear e7 eX hX0 hw6
      clear w6
      have hL7 := HL.out.below hb7
      have hXA : LApart w7 Bl X := (LApart.new HL.out hXw).below HL.out.lt hb7
      refine (CC.out.2.2.1 w7 hL7).mono ?_
      rintro e w8 ⟨rfl, hL8, hb8, hk8⟩
      have hX8 : Blk w8 X 36 (bcells H) := (hk8 X hX7.lt hXA).2.trans hX7
      have hk78 : LKeeps wr w8 Bl := (LKeeps.below HL.out.lt hb7).trans hb7.size hk8
      have hQ8 : w8.ownsRow w.heap.size 36 32 (.slice pq j cq) j xs := row_same hQ (fun g e => (hk78 g (hQ.lt g e).2 (HA.out g e)).2)
      have hA8 : ∀ g, (Value.slice pq j cq).ownBlock = some g → LApart w8 Bl g := fun g e => (hk78 g (hQ.lt g e).2 (HA.out g e)).1
      have hK8 : LKeeps w w8 Bl := HK.out.trans hsz hk78
      have hs8 : wr.heap.size ≤ w8.heap.size := Nat.le_trans hb7.size hb8.size
      have hbw8 : Below base w w8 := (hb.trans (hb7.mono (by omega))).trans hb8
      clear hL7 hXA hX7 hb8 hk8 hk78 hb7 hQ hb
      have hQa := hQ8.alloc (.cells (bcells H) 36)
      have hsrc := src_hash CC.out.2.2.2.2 (Blk.new w8 36 (bcells H))
      have hsa : w.heap.size ≤ (w8.alloc (.cells (bcells H) 36)).heap.size := by simp; omega
      have b1 : j + 1 ≤ maxLen := by simp only [maxLen]; omega
      have b2 : (j + 1) * 32 ≤ 140737488355328 := by omega
      have HQ := Lib.hid (And.intro hQa (And.intro hsrc hsa))
      have HS := Lib.hid (And.intro hL8 (And.intro hK8 (And.intro hbw8 hA8)))
      clear hQa hsrc hsa hQ8 hL8 hK8 hbw8 hA8
      go_wp2_with (first
        | (refine wpList_ld_row (d := 31) X (bcells H) rfl 36 hX8 Tryz.underlying36 rfl (by rw [size29, bcells_size, CC.out.2.2.2.2]) ?_; simp only [List.setIfInBounds_toArray, List.set_cons_succ, List.set_cons_zero])
        | (refine wpList_bs (d := 32) #[(0, .agg (bcells H))] _ (by rw [List.map_toArray]; rfl) (buildS82 H CC.out.2.2.2.2 w8) ?_; simp only [List.setIfInBounds_toArray, List.set_cons_succ, List.set_cons_zero])
        | (at_builtin; refine wpList_app _ w.heap.size 36 i0 (.agg z32) 32 32 under82 hi0 hz0 hz1 hz2 rfl (.slice pq j cq) j xs rfl HQ.out.1 _ 1 _ rfl HQ.out.2.1 b1 b2 HQ.out.2.2 ?_; intro v9 w9 hR9 hg9 hat9 _; obtain ⟨p9, c9, rfl⟩ := row_slice hR9; simp only [List.setIfInBounds_toArray, List.set_cons_succ, List.set_cons_zero]))
      obtain ⟨k1, k2, k3, k4, k5⟩ := list_app HS.out.1 HS.out.2.1 HS.out.2.2.1 hbse HS.out.2.2.2 HQ.out.1 hg9 hat9
      exact ⟨⟨j + 1, c9, p9, _, rfl, by go_num, by omega, hR9, Lib.hid CC.out.2.2.2.1, Lib.hid k1, k3, Lib.hid k2, Lib.hid k4, k5⟩, by simp [intOf]; omega⟩
    · obtain rfl : j = m := by omega
      have hxs := HXS.out
      have hL := HL.out
      rw [HX.out.2.2.2.2.1, List.take_length] at hxs hL
      have HXS2 := Lib.hid hxs
      have HL2 := Lib.hid hL
      clear hxs hL
      go_wp2
      go_ret
      exact ⟨pq, cq, rfl, by rw [← HXS2.out]; exact hQ, HL2.out, hb, HK.out, HA.out⟩
end Go.Proofs.YtmhbkilpllgchaaGreatDoor
namespace Go.Proofs.YtmhbkilpllgchaaGreatDoor
open Go.RowKit BigFrame
set_option linter.unusedVariables false
set_option linter.unusedSimpArgs false

theorem nodeT_size (kd : UInt8) (hs : List (List UInt8)) (h8 : hs.length ≤ 8) (hl : ∀ L ∈ hs, L.length = 32) : (nodeT kd hs).size ≤ 140737488351232 := by
  have : ∀ hs : List (List UInt8), (∀ L ∈ hs, L.length = 32) → hs.flatten.length = hs.length * 32 := fun hs => by
    induction hs with
    | nil => intro _; rfl
    | cons a hs ih =>
      intro h
      rw [List.flatten_cons, List.length_append, ih (fun L hL => h L (List.mem_cons_of_mem _ hL)), h a (by simp), List.length_cons]
      omega
  rw [ba_list, nodeT]
  simp only [List.length_cons, this hs hl]
  omega

set_option maxRecDepth 100000 in
set_option maxHeartbeats 8000000 in
theorem rowsh_any {w : World} {base Bl D b2 m c : Nat} {all0 : List ByteArray} {p : Option Addr} {vs : List Value} {cs : List (List (List UInt8))} (hlst : LstAt w base Bl all0)
    (hR : w.ownsRow b2 98 1 (.slice p m c) m vs) (hC : HChunks w D vs cs) (hcs : ∀ x ∈ cs, x.length ≤ 8 ∧ ∀ L ∈ x, L.length = 32) (hm : m = cs.length) (hD : D < w.heap.size) (hsep : LApart w Bl D)
    (hsepR : ∀ g, (Value.slice p m c).ownBlock = some g → LApart w Bl g) (hm2 : m ≤ 1000) (hall : all0.length ≤ 10000) :
    Calls Tryz.prog 59 #[.pointer (some ⟨Bl, 0, none⟩), .slice p m c, .func (.func 61) #[] #[]] w fun e w' => ∃ p' c', e = .returned (.slice p' m c') ∧ w'.ownsRow w.heap.size 36 32 (.slice p' m c') m (hcells (cs.map fun x => objH (nodeT 73 x))) ∧
      LstAt w' base Bl ((cs.map (nodeT 73)).foldl onceA all0) ∧ Below base w w' ∧ LKeeps w w' Bl ∧ (∀ g, (Value.slice p' m c').ownBlock = some g → LApart w' Bl g) := by
  obtain ⟨i0, hi0, hz0, hz1, hz2⟩ := info_parts info29
  have hbse : base ≤ w.heap.size := by have := hlst.ge; have := hlst.lt; omega
  have hBl := hlst.lt
  have HX := Lib.hid (And.intro hlst (And.intro hR (And.intro hC (And.intro hcs (And.intro hm (And.intro hD (And.intro hsep (And.intro hsepR hall))))))))
  clear hlst hR hC hcs hm hD hsep hsepR hall
  go_enter Tryz.func59, Tryz.ntmps59
  go_wp2
  go_loopw [7, 9, 10, 11, 12, 15] (fun t7 s0 s1 s2 s3 i wr => ∃ (j cq : Nat) (pq : Option Addr) (xs : List Value), t7 = .slice pq j cq ∧ i = .int .i64 (j : Int) ∧ j ≤ m ∧ wr.ownsRow w.heap.size 36 32 (.slice pq j cq) j xs ∧ Hid (xs = hcells ((cs.take j).map fun x => objH (nodeT 73 x))) ∧ Hid (LstAt wr base Bl (((cs.take j).map (nodeT 73)).foldl onceA all0)) ∧ Below base w wr ∧ Hid (LKeeps w wr Bl) ∧ Hid (∀ g, (Value.slice pq j cq).ownBlock = some g → LApart wr Bl g) ∧ w.heap.size ≤ wr.heap.size) (fun _ _ _ _ _ i _ => m - (intOf i).toNat)
  case atStart => exact ⟨0, 0, none, [], rfl, rfl, by omega, World.ownsRow_nil _ _ _ _, Lib.hid (by simp [hcells]), Lib.hid (by simpa using HX.out.1), Below.refl _ _, Lib.hid (LKeeps.refl _ _), Lib.hid (fun g e => by cases e), Nat.le_refl _⟩
  case round =>
    obtain ⟨j, cq, pq, xs, rfl, rfl, hj, hQ, HXS, HL, hb, HK, HA, hsz⟩ := hrel
    by_cases h1 : j < m
    · have hjl : j < cs.length := by rw [← HX.out.2.2.2.2.1]; exact h1
      obtain ⟨g, c', e1, _, hgl, _, _⟩ := row_form HX.out.2.1 (by intro e; injection e with _ e _; omega)
      injection e1 with e1 _ e2
      subst e1; subst e2
      obtain ⟨o, q, hv, hrg⟩ := HX.out.2.2.1.2 j hjl
      obtain ⟨l, el⟩ : ∃ l, l = cs[j] := ⟨_, rfl⟩
      rw [← el] at hv hrg
      have hl64 : l.length ≤ 8 ∧ ∀ L ∈ l, L.length = 32 := by rw [el]; exact HX.out.2.2.2.1 _ (List.getElem_mem hjl)
      have hDw : D < wr.heap.size := by have := HX.out.2.2.2.2.2.1; omega
      have hkg := (HK.out g hgl (HX.out.2.2.2.2.2.2.2.1 g rfl)).2
      have hkD := (HK.out D HX.out.2.2.2.2.2.1 HX.out.2.2.2.2.2.2.1).2
      have hcell : wr.cell? ⟨g, j, none⟩ = some (.slice (some ⟨D, o, none⟩) l.length q) := by
        have := HX.out.2.1.cells (g := g) rfl j _ hv
        rw [Addr.add_mid, Nat.zero_add] at this
        exact (cell_same hkg j).trans this
      have hcell2 : wr.cell? ((⟨g, 0, none⟩ : Addr).add j) = some (.slice (some ⟨D, o, none⟩) l.length q) := by
        rw [Addr.add_mid, Nat.zero_add]; exact hcell
      have hrg2 : wr.rangeAt D o (hcells l) := fun i v h => (cell_same hkD _).trans (hrg i v h)
      have EL := Lib.hid el
      obtain ⟨S, eS⟩ : ∃ S, S = nodeT 73 l := ⟨_, rfl⟩
      obtain ⟨H, eH⟩ : ∃ H, H = objH S := ⟨_, rfl⟩
      have hHl : H.length = 32 := by rw [eH]; exact objH_length S
      have hSs : S.size ≤ 140737488351232 := by rw [eS]; exact nodeT_size 73 l hl64.1 hl64.2
      have c81 : ∀ q, Calls Tryz.prog 61 #[.slice (some ⟨D, o, none⟩) l.length q] wr fun e w' => e = .returned (.string S) ∧ Below wr.heap.size wr w' := fun q => by
        rw [eS]; exact innerf_any (some ⟨D, o, none⟩) l q wr (.inr ⟨D, o, rfl, hDw, hrg2⟩) hl64.2 (by omega)
      have c78 : ∀ w', Calls Tryz.prog 34 #[.string S] w' fun e w'' => e = .returned (.tuple #[.agg (bcells H), .bool (objOk S)]) ∧ Below w'.heap.size w' w'' := fun w' => by rw [eH]; exact hashof_any S w' hSs
      have hA0 := foldl_onceA_length ((cs.take j).map (nodeT 73)) all0
      have hlen : (((cs.take j).map (nodeT 73)).foldl onceA all0).length ≤ 1000000 := by
        rw [List.length_map, List.length_take] at hA0
        have := HX.out.2.2.2.2.2.2.2.2
        omega
      have c86 : ∀ w', LstAt w' base Bl (((cs.take j).map (nodeT 73)).foldl onceA all0) → Calls Tryz.prog 63 #[.pointer (some ⟨Bl, 0, none⟩), .string S] w' fun e w'' => e = .returned (.tuple #[]) ∧ LstAt w'' base Bl (((cs.take (j + 1)).map (nodeT 73)).foldl onceA all0) ∧ Below base w' w'' ∧ LKeeps w' w'' Bl := fun w' h => by
        have := ladd_any h S hlen
        rw [List.take_succ_eq_append_getElem hjl, List.map_append, List.foldl_append, ← el]
        show Calls Tryz.prog 63 _ _ fun e w'' => e = .returned (.tuple #[]) ∧ LstAt w'' base Bl (onceA _ (nodeT 73 l)) ∧ Below base w' w'' ∧ LKeeps w' w'' Bl
        rw [← eS]
        exact this
      have hxs : xs ++ (bcells H).toList = hcells ((cs.take (j + 1)).map fun x => objH (nodeT 73 x)) := by
        rw [List.take_succ_eq_append_getElem hjl, List.map_append, HXS.out, hcells, hcells, List.flatMap_append, ← el]
        congr 1
        show _ = List.flatMap _ [objH (nodeT 73 l)]
        rw [← eS, ← eH]
        simp
      obtain ⟨K, eK⟩ : ∃ K, K = objOk S := ⟨_, rfl⟩
      rw [← eK] at c78
      have CC := Lib.hid (And.intro c81 (And.intro c78 (And.intro c86 (And.intro hxs hHl))))
      obtain ⟨ln, eln⟩ : ∃ ln, ln = l.length := ⟨_, rfl⟩
      rw [← eln] at CC hcell hcell2
      clear el eS eH eK c81 c78 c86 hxs hHl hSs hA0 hlen hv hrg hrg2 hkg hkD eln hl64 hDw
      go_wp2_with fail
      refine (CC.out.1 q).mono ?_
      rintro e w5 ⟨rfl, hb5⟩
      go_wp2_with fail
      refine (CC.out.2.1 w5).mono ?_
      rintro e w6 ⟨rfl, hb56⟩
      have hb6 : Below wr.heap.size wr w6 := hb5.trans (hb56.mono hb5.size)
      clear hb5 hb56
      have hX0 : Blk (w6.alloc (.cells z32 36)) w6.heap.size 36 z32 := Blk.new _ _ _
      have hX7 : Blk ((w6.alloc (.cells z32 36)).setRow w6.heap.size (bcells H)) w6.heap.size 36 (bcells H) := hX0.row _
      have hb7 : Below wr.heap.size wr ((w6.alloc (.cells z32 36)).setRow w6.heap.size (bcells H)) := below_setRow (hb6.alloc hb6.size _) hb6.size _
      have hw6 := hb6.size
      clear hcell hcell2 hb6
      go_wp2_with (refine wpList_alN (d := 11) z32 zero29 w6.heap.size rfl (wpList_st_row w6.heap.size (bcells H) rfl rfl 36 z32 hX0 (by rw [size29, bcells_size, CC.out.2.2.2.2]) (by rw [bcells_size, CC.out.2.2.2.2]; rfl) (bcells_one _) ?_); simp only [List.setIfInBounds_toArray, List.set_cons_succ, List.set_cons_zero])
      obtain ⟨w7, e7⟩ : ∃ w7, w7 = (w6.alloc (.cells z32 36)).setRow w6.heap.size (bcells H) := ⟨_, rfl⟩
      obtain ⟨X, eX⟩ : ∃ X, X = w6.heap.size := ⟨_, rfl⟩
      have hXw : wr.heap.size ≤ X := by omega
      rw [← e7] at hX7 hb7 ⊢
      rw [← eX] at hX7 ⊢
      clear e7 eX hX0 hw6
      clear w6
      have hL7 := HL.out.below hb7
      have hXA : LApart w7 Bl X := (LApart.new HL.out hXw).below HL.out.lt hb7
      refine (CC.out.2.2.1 w7 hL7).mono ?_
      rintro e w8 ⟨rfl, hL8, hb8, hk8⟩
      have hX8 : Blk w8 X 36 (bcells H) := (hk8 X hX7.lt hXA).2.trans hX7
      have hk78 : LKeeps wr w8 Bl := (LKeeps.below HL.out.lt hb7).trans hb7.size hk8
      have hQ8 : w8.ownsRow w.heap.size 36 32 (.slice pq j cq) j xs := row_same hQ (fun g e => (hk78 g (hQ.lt g e).2 (HA.out g e)).2)
      have hA8 : ∀ g, (Value.slice pq j cq).ownBlock = some g → LApart w8 Bl g := fun g e => (hk78 g (hQ.lt g e).2 (HA.out g e)).1
      have hK8 : LKeeps w w8 Bl := HK.out.trans hsz hk78
      have hs8 : wr.heap.size ≤ w8.heap.size := Nat.le_trans hb7.size hb8.size
      have hbw8 : Below base w w8 := (hb.trans (hb7.mono (by omega))).trans hb8
      clear hL7 hXA hX7 hb8 hk8 hk78 hb7 hQ hb
      have hQa := hQ8.alloc (.cells (bcells H) 36)
      have hsrc := src_hash CC.out.2.2.2.2 (Blk.new w8 36 (bcells H))
      have hsa : w.heap.size ≤ (w8.alloc (.cells (bcells H) 36)).heap.size := by simp; omega
      have b1 : j + 1 ≤ maxLen := by simp only [maxLen]; omega
      have b2 : (j + 1) * 32 ≤ 140737488355328 := by omega
      have HQ := Lib.hid (And.intro hQa (And.intro hsrc hsa))
      have HS := Lib.hid (And.intro hL8 (And.intro hK8 (And.intro hbw8 hA8)))
      clear hQa hsrc hsa hQ8 hL8 hK8 hbw8 hA8
      go_wp2_with (first
        | (refine wpList_ld_row (d := 31) X (bcells H) rfl 36 hX8 Tryz.underlying36 rfl (by rw [size29, bcells_size, CC.out.2.2.2.2]) ?_; simp only [List.setIfInBounds_toArray, List.set_cons_succ, List.set_cons_zero])
        | (refine wpList_bs (d := 32) #[(0, .agg (bcells H))] _ (by rw [List.map_toArray]; rfl) (buildS82 H CC.out.2.2.2.2 w8) ?_; simp only [List.setIfInBounds_toArray, List.set_cons_succ, List.set_cons_zero])
        | (at_builtin; refine wpList_app _ w.heap.size 36 i0 (.agg z32) 32 32 under82 hi0 hz0 hz1 hz2 rfl (.slice pq j cq) j xs rfl HQ.out.1 _ 1 _ rfl HQ.out.2.1 b1 b2 HQ.out.2.2 ?_; intro v9 w9 hR9 hg9 hat9 _; obtain ⟨p9, c9, rfl⟩ := row_slice hR9; simp only [List.setIfInBounds_toArray, List.set_cons_succ, List.set_cons_zero]))
      obtain ⟨k1, k2, k3, k4, k5⟩ := list_app HS.out.1 HS.out.2.1 HS.out.2.2.1 hbse HS.out.2.2.2 HQ.out.1 hg9 hat9
      exact ⟨⟨j + 1, c9, p9, _, rfl, by go_num, by omega, hR9, Lib.hid CC.out.2.2.2.1, Lib.hid k1, k3, Lib.hid k2, Lib.hid k4, k5⟩, by simp [intOf]; omega⟩
    · obtain rfl : j = m := by omega
      have hxs := HXS.out
      have hL := HL.out
      rw [HX.out.2.2.2.2.1, List.take_length] at hxs hL
      have HXS2 := Lib.hid hxs
      have HL2 := Lib.hid hL
      clear hxs hL
      go_wp2
      go_ret
      exact ⟨pq, cq, rfl, by rw [← HXS2.out]; exact hQ, HL2.out, hb, HK.out, HA.out⟩
end Go.Proofs.YtmhbkilpllgchaaGreatDoor
