/- Bytes out of hexadecimal digits, in plain Lean; console.bytes. console.bytes. The law's bytes. -/
import Derived.Test.YtmhbkilpllgchaaGreatDoorMgCab
namespace Go.Proofs.YtmhbkilpllgchaaGreatDoor
open Go.RowKit BigFrame
set_option linter.unusedVariables false
set_option linter.unusedSimpArgs false

def unD (c : UInt8) : Option Nat := if 48 ≤ c.toNat ∧ c.toNat ≤ 57 then some (c.toNat - 48) else if 97 ≤ c.toNat ∧ c.toNat ≤ 102 then some (c.toNat - 87) else none
def bytesF : List UInt8 → Option (List UInt8)
  | [] => some []
  | [_] => none
  | a :: b :: l => match unD a, unD b, bytesF l with
    | some x, some y, some m => some (UInt8.ofNat (16 * x + y) :: m)
    | _, _, _ => none
def bytesO (l : List UInt8) : Option (List UInt8) := if l = [45] then some [] else bytesF l
/-- Digit number j. -/
def dg (l : List UInt8) (j : Nat) : Nat := (unD (l.getD j 0)).getD 0
theorem unD_lt {c : UInt8} {x : Nat} (h : unD c = some x) : x < 16 := by
  unfold unD at h
  split at h
  · have := Option.some.inj h; omega
  · split at h
    · have := Option.some.inj h; omega
    · cases h
theorem dg_lt (l : List UInt8) (j : Nat) : dg l j < 16 := by
  unfold dg
  cases h : unD (l.getD j 0) with
  | none => simp
  | some x => exact unD_lt h
theorem bytesF_all : ∀ (m : Nat) (l : List UInt8), l.length = 2 * m → (∀ j, j < l.length → (unD (l.getD j 0)).isSome) → bytesF l = some ((List.range m).map fun k => UInt8.ofNat (16 * dg l (2 * k) + dg l (2 * k + 1)))
  | 0, l, h, _ => by
    have : l = [] := List.length_eq_zero_iff.1 (by omega)
    subst this
    rw [bytesF]; rfl
  | m + 1, [], h, _ => by simp at h
  | m + 1, [_], h, _ => by simp at h; omega
  | m + 1, a :: b :: l, h, hd => by
    simp only [List.length_cons] at h hd
    have ih := bytesF_all m l (by omega) (fun j hj => hd (j + 2) (by omega))
    have ha := hd 0 (by omega)
    have hb := hd 1 (by omega)
    simp only [List.getD_cons_zero, List.getD_cons_succ] at ha hb
    obtain ⟨x, hx⟩ := Option.isSome_iff_exists.1 ha
    obtain ⟨y, hy⟩ := Option.isSome_iff_exists.1 hb
    have e0 : dg (a :: b :: l) 0 = x := by simp [dg, hx]
    have e1 : dg (a :: b :: l) 1 = y := by simp [dg, hy]
    have e2 : ∀ j, dg (a :: b :: l) (j + 2) = dg l j := fun j => rfl
    rw [bytesF, hx, hy, ih, List.range_succ_eq_map, List.map_cons, List.map_map]
    simp only [Nat.mul_zero, Nat.zero_add, e0, e1]
    congr 2
theorem bytesF_bad : ∀ (m : Nat) (l : List UInt8) (j : Nat), l.length ≤ m → j < l.length → unD (l.getD j 0) = none → bytesF l = none
  | 0, l, j, h, hj, _ => by omega
  | m + 1, [], j, h, hj, _ => by simp at hj
  | m + 1, [_], j, h, hj, _ => by rw [bytesF]
  | m + 1, a :: b :: l, 0, h, hj, hn => by
    simp only [List.getD_cons_zero] at hn
    rw [bytesF, hn]
  | m + 1, a :: b :: l, 1, h, hj, hn => by
    simp only [List.getD_cons_succ, List.getD_cons_zero] at hn
    rw [bytesF, hn]
    split <;> simp_all
  | m + 1, a :: b :: l, j + 2, h, hj, hn => by
    simp only [List.length_cons] at h hj
    have ih := bytesF_bad m l j (by omega) (by omega) (by simpa using hn)
    rw [bytesF, ih]
    split <;> simp_all
theorem bytesF_odd : ∀ (m : Nat) (l : List UInt8), l.length = 2 * m + 1 → bytesF l = none
  | 0, [a], _ => by rw [bytesF]
  | 0, [], h => by simp at h
  | 0, _ :: _ :: _, h => by simp at h
  | m + 1, [], h => by simp at h
  | m + 1, [_], h => by simp at h
  | m + 1, a :: b :: l, h => by
    simp only [List.length_cons] at h
    have ih := bytesF_odd m l (by omega)
    rw [bytesF, ih]
    split <;> simp_all
theorem bytesF_len : ∀ (m : Nat) (l r : List UInt8), l.length ≤ m → bytesF l = some r → 2 * r.length = l.length
  | _, [], r, _, h => by rw [bytesF] at h; rw [← Option.some.inj h]; rfl
  | _, [_], r, _, h => by rw [bytesF] at h; cases h
  | 0, _ :: _ :: _, r, hm, _ => by simp at hm
  | m + 1, a :: b :: l, r, hm, h => by
    simp only [List.length_cons] at hm
    rw [bytesF] at h
    split at h
    · rename_i x y q h1 h2 h3
      have ih := bytesF_len m l q (by omega) h3
      rw [← Option.some.inj h]
      simp only [List.length_cons]
      omega
    · cases h
theorem index_digit (c : UInt8) : Lib.indexByte digitsL c = match unD c with | some x => (x : Int) | none => -1 := by
  have h : ∀ n : Fin 256, Lib.indexByte digitsL (UInt8.ofNat n.val) = match unD (UInt8.ofNat n.val) with | some x => (x : Int) | none => -1 := by decide +kernel
  have := h ⟨c.toNat, c.toNat_lt⟩
  simpa using this
end Go.Proofs.YtmhbkilpllgchaaGreatDoor
namespace Go.Proofs.YtmhbkilpllgchaaGreatDoor
open Go.RowKit BigFrame
set_option linter.unusedVariables false
set_option linter.unusedSimpArgs false

def oV (l : List UInt8) (i k : Nat) : Nat := if 2 * k + 2 ≤ i then 16 * dg l (2 * k) + dg l (2 * k + 1) else if 2 * k + 1 ≤ i then dg l (2 * k) else 0
def oC (l : List UInt8) (m i : Nat) : Array Value := ((List.range m).map fun k => B (UInt8.ofNat (oV l i k))).toArray
theorem oC_get (l : List UInt8) (m i k : Nat) (h : k < m) : (oC l m i)[k]? = some (B (UInt8.ofNat (oV l i k))) := by
  rw [oC, List.getElem?_toArray, List.getElem?_map, List.getElem?_range h]; rfl
theorem oC_set (l : List UInt8) (m i : Nat) (h : i / 2 < m) : (oC l m i).setIfInBounds (i / 2) (B (UInt8.ofNat (oV l (i + 1) (i / 2)))) = oC l m (i + 1) := by
  apply Array.ext_getElem?
  intro k
  rw [Array.getElem?_setIfInBounds]
  by_cases e : i / 2 = k
  · subst e
    rw [if_pos rfl, oC_get l m (i + 1) _ h, if_pos (by simpa [oC] using h)]
  · rw [if_neg e]
    by_cases hk : k < m
    · rw [oC_get l m i k hk, oC_get l m (i + 1) k hk]
      have : oV l i k = oV l (i + 1) k := by
        unfold oV
        by_cases h1 : 2 * k + 2 ≤ i
        · rw [if_pos h1, if_pos (by omega)]
        · have h2 : ¬ 2 * k + 1 ≤ i := by omega
          rw [if_neg h1, if_neg h2, if_neg (by omega), if_neg (by omega)]
      rw [this]
    · simp [oC, hk]
theorem oC_zero (l : List UInt8) (m : Nat) : oC l m 0 = ((List.replicate m 0).map B).toArray := by
  rw [oC]
  congr 1
  apply List.ext_getElem
  · simp
  · intro k h1 h2
    simp only [List.getElem_map, List.getElem_range, List.getElem_replicate, oV]
    rw [if_neg (by omega), if_neg (by omega)]
    rfl
theorem oC_end (l : List UInt8) (m : Nat) : oC l m (2 * m) = (((List.range m).map fun k => UInt8.ofNat (16 * dg l (2 * k) + dg l (2 * k + 1))).map B).toArray := by
  rw [oC, List.map_map]
  congr 1
  apply List.map_congr_left
  intro k hk
  have := List.mem_range.1 hk
  show B (UInt8.ofNat (oV l (2 * m) k)) = B (UInt8.ofNat _)
  rw [oV, if_pos (by omega)]
theorem or_nib {a x : Nat} (ha : a < 16) (hx : x < 16) : bits .or .u8 (16 * (a : Int)) (x : Int) = ((16 * a + x : Nat) : Int) := by
  have h : ∀ a x : Fin 16, bits .or .u8 (16 * (a.val : Int)) (x.val : Int) = ((16 * a.val + x.val : Nat) : Int) := by decide +kernel
  exact h ⟨a, ha⟩ ⟨x, hx⟩

theorem oV_step (l : List UInt8) (i : Nat) : oV l i (i / 2) < 16 ∧ oV l (i + 1) (i / 2) = 16 * oV l i (i / 2) + dg l i := by
  unfold oV
  rw [if_neg (by omega)]
  by_cases h : i % 2 = 0
  · rw [if_neg (by omega), if_neg (by omega), if_pos (by omega), show 2 * (i / 2) = i by omega]
    exact ⟨by omega, by omega⟩
  · rw [if_pos (by omega), if_pos (by omega), show 2 * (i / 2) + 1 = i by omega]
    exact ⟨dg_lt _ _, rfl⟩
set_option maxRecDepth 100000 in
set_option maxHeartbeats 8000000 in
theorem bytesc_any (s : ByteArray) (w : World) (hs : s.size ≤ 100000) (hne : s.data.toList ≠ []) :
    Calls Tryz.prog 51 #[.string s] w fun e w' => e = .returned (.tuple #[.string ⟨((bytesO s.data.toList).getD []).toArray⟩, .bool (bytesO s.data.toList).isSome]) ∧ Below w.heap.size w w' := by
  obtain ⟨i0, hi0, hz0, hz1, hz2⟩ := info_parts info5z
  obtain ⟨l, el⟩ : ∃ l, l = s.data.toList := ⟨_, rfl⟩
  rw [← el] at hne ⊢
  by_cases h45 : l = [45]
  · have : s = ⟨#[45]⟩ := by apply ba_ext3; rw [← el, h45]
    subst this
    rw [h45]
    clear el h45 hne
    go_enter Tryz.func51, Tryz.ntmps51
    go_wp2
    exact bodyPost_ret (v := .tuple #[.string ⟨#[]⟩, .bool true]) (by simp [results, Tryz.f51, go_sem]) rfl ⟨rfl, Below.refl _ _⟩
  · have hO : bytesO l = bytesF l := by rw [bytesO, if_neg h45]
    rw [hO]
    obtain ⟨R, eR⟩ : ∃ R, R = bytesF l := ⟨_, rfl⟩
    rw [← eR]
    have hln : l.length = s.size := by rw [el]; rfl
    have hbt : ∀ i, bt s i = l.getD i 0 := fun i => by rw [el]; rfl
    have hq1 : ¬ s.toList = [45] := fun e => h45 (by rw [el, ← Lib.toList_data, e])
    have hq2 : (s.toList == [45]) = false := by rw [beq_eq_false_iff_ne]; exact hq1
    have hpos : 0 < s.size := by rw [← hln]; exact List.length_pos_iff.2 hne
    obtain ⟨m, em⟩ : ∃ m, m = (s.size + 1) / 2 := ⟨_, rfl⟩
    have HL := Lib.hid (And.intro el (And.intro hln (And.intro hbt (And.intro em eR))))
    clear el hln hbt hO h45 hne em eR
    go_enter Tryz.func51, Tryz.ntmps51
    go_wp2_with (refine wpList_mk (d := 13) w.heap.size m _ (by have := HL.out.2.2.2.1; omega) (by have := HL.out.2.2.2.1; omega) rfl rfl rfl hi0 hz0 hz1 hz2 ?_; intro w1 hZ1 hb1 hs1; simp only [List.setIfInBounds_toArray, List.set_cons_succ, List.set_cons_zero])
    obtain ⟨D, eD⟩ : ∃ D, D = w.heap.size := ⟨_, rfl⟩
    rw [← eD] at hZ1 hb1 hs1 ⊢
    have HD := Lib.hid eD
    have hZ : Blk w1 D 5 (oC l m 0) := by rw [oC_zero]; exact hZ1
    have hb : Below w.heap.size w w1 := by rw [← eD]; exact hb1
    clear eD hZ1 hb1
    go_loopw [5, 6, 16] (fun _ _ t16 wr => ∃ (i : Nat), t16 = .int .i64 (i : Int) ∧ i ≤ s.size ∧ Hid (Blk wr D 5 (oC l m i)) ∧ Hid (∀ j, j < i → (unD (l.getD j 0)).isSome) ∧ Hid (0 < i → s.size % 2 = 0) ∧ Below w.heap.size w wr) (fun _ _ t16 _ => s.size - (intOf t16).toNat)
    case atStart => exact ⟨0, rfl, by omega, Lib.hid hZ, Lib.hid (fun j hj => by omega), Lib.hid (fun h => by omega), hb⟩
    case round =>
      clear hb hZ hs1
      obtain ⟨i, rfl, hi, HZ, HG, HP, hb⟩ := hrel
      by_cases h1 : i < s.size
      · obtain ⟨c, ec⟩ : ∃ c, c = l.getD i 0 := ⟨_, rfl⟩
        have hbi : bt s i = c := by rw [HL.out.2.2.1, ec]
        have c76 : ∀ w', Calls Tryz.prog 76 #[.string digitsS, .int .u8 (c.toNat : Int)] w' fun e w'' => e = .returned (.int .i64 (match unD c with | some x => (x : Int) | none => -1)) ∧ w' = w'' := fun w' => by
          refine (t_strings_IndexByte digitsS (c.toNat : Int) w').mono ?_
          rintro e w'' ⟨rfl, rfl⟩
          have e1 : ((c.toNat : Int)).toNat.toUInt8 = c := by simp
          rw [e1]
          exact ⟨congrArg (fun z => Ending.returned (Value.int .i64 z)) (index_digit c), rfl⟩
        have HC := Lib.hid (And.intro c76 ec)
        clear c76 ec
        cases hu : unD c with
        | none =>
          rw [hu] at HC
          have HU := Lib.hid hu
          clear hu
          go_wp2_with (go_at_call 76; refine (HC.out.1 _).mono ?_; rintro e w' ⟨rfl, rfl⟩)
          have hn : bytesF l = none := bytesF_bad l.length l i (Nat.le_refl _) (by rw [HL.out.2.1]; exact h1) (by rw [← HC.out.2]; exact HU.out)
          have hR : R = none := by rw [HL.out.2.2.2.2, hn]
          subst hR
          exact bodyPost_ret (v := .tuple #[.string ⟨#[]⟩, .bool false]) (by simp [results, Tryz.f51, go_sem]) rfl ⟨rfl, hb⟩
        | some x =>
          rw [hu] at HC
          have hx16 := unD_lt hu
          have HU := Lib.hid hu
          clear hu
          have hx0 : ¬ (x : Int) < 0 := by omega
          by_cases hpar : s.size % 2 = 0
          · have hp1 : (s.size : Int).tmod 2 = 0 := by rw [Int.tmod_eq_emod_of_nonneg (by omega)]; omega
            have hp2 : (s.size : Int) % 2 = 0 := by omega
            obtain ⟨k, ek⟩ : ∃ k, k = i / 2 := ⟨_, rfl⟩
            have hkm : k < m := by have := HL.out.2.2.2.1; omega
            have hik : (i : Int) / 2 = (k : Int) := by omega
            have HK := Lib.hid ek
            clear ek
            have hcl : wr.cell? ⟨D, k, none⟩ = some (B (UInt8.ofNat (oV l i k))) := by rw [HZ.out.cell, oC_get l m i k hkm]
            have hfz := HZ.out.frozen k
            go_wp2_with (go_at_call 76; refine (HC.out.1 _).mono ?_; rintro e w' ⟨rfl, rfl⟩)
            obtain ⟨h3, h4⟩ := oV_step l i
            rw [← HK.out] at h3 h4
            have hdg : dg l i = x := by rw [dg, ← HC.out.2, HU.out]; rfl
            have hval : Value.int .u8 (bits .or .u8 ((oV l i k : Int) % 256 * 16 % 256) (x : Int)) = B (UInt8.ofNat (oV l (i + 1) k)) := by
              have e1 : ((oV l i k : Int) % 256 * 16 % 256) = 16 * (oV l i k : Int) := by omega
              rw [e1, or_nib h3 hx16, h4, hdg]
              show Value.int .u8 _ = Value.int .u8 _
              rw [UInt8.toNat_ofNat']
              congr 1
              omega
            have hset := oC_set l m i (by rw [← HK.out]; exact hkm)
            rw [← HK.out] at hset
            refine ⟨⟨i + 1, by go_num, by omega, Lib.hid ?_, Lib.hid (fun j hj => ?_), Lib.hid (fun _ => hpar), hb.setCell (p := ⟨D, k, none⟩) (by rw [HD.out]; exact Nat.le_refl _) _⟩, by simp [intOf]; omega⟩
            · rw [hval, ← hset]; exact HZ.out.set_ k _
            · rcases Nat.lt_or_ge j i with g | g
              · exact HG.out j g
              · obtain rfl : j = i := by omega
                rw [← HC.out.2, HU.out]; rfl
          · have hp1 : ¬ (s.size : Int).tmod 2 = 0 := by rw [Int.tmod_eq_emod_of_nonneg (by omega)]; omega
            have hp2 : ¬ (s.size : Int) % 2 = 0 := by omega
            have hp3 : (s.size : Int) % 2 = 1 := by omega
            go_wp2_with (go_at_call 76; refine (HC.out.1 _).mono ?_; rintro e w' ⟨rfl, rfl⟩)
            have hn : bytesF l = none := bytesF_odd (s.size / 2) l (by rw [HL.out.2.1]; omega)
            have hR : R = none := by rw [HL.out.2.2.2.2, hn]
            subst hR
            exact bodyPost_ret (v := .tuple #[.string ⟨#[]⟩, .bool false]) (by simp [results, Tryz.f51, go_sem]) rfl ⟨rfl, hb⟩
      · obtain rfl : i = s.size := by omega
        have hpar := HP.out hpos
        have hm2 : s.size = 2 * m := by have := HL.out.2.2.2.1; omega
        have hall := bytesF_all m l (by rw [HL.out.2.1]; exact hm2) (fun j hj => HG.out j (by rw [HL.out.2.1] at hj; exact hj))
        obtain ⟨M, eM⟩ : ∃ M, M = (List.range m).map fun k => UInt8.ofNat (16 * dg l (2 * k) + dg l (2 * k + 1)) := ⟨_, rfl⟩
        rw [← eM] at hall
        have hZe : Blk wr D 5 (M.map B).toArray := by
          have := HZ.out
          rw [hm2, oC_end, ← eM] at this
          exact this
        have hMl : M.length = m := by rw [eM]; simp
        have hR : R = some M := by rw [HL.out.2.2.2.2, hall]
        subst hR
        have HF := Lib.hid hm2
        clear hm2 hall eM hpar
        go_wp2_with (refine wpList_str (d := 46) D m m M hMl rfl hZe ?_; simp only [List.setIfInBounds_toArray, List.set_cons_succ, List.set_cons_zero])
        exact bodyPost_ret (v := .tuple #[.string ⟨M.toArray⟩, .bool true]) (by simp [results, Tryz.f51, go_sem]) rfl ⟨rfl, hb⟩
end Go.Proofs.YtmhbkilpllgchaaGreatDoor
namespace Go.Proofs.YtmhbkilpllgchaaGreatDoor
open Go.RowKit BigFrame
set_option linter.unusedVariables false
set_option linter.unusedSimpArgs false

def pM (l : List UInt8) (k : Nat) : List UInt8 := (List.range k).map fun j => UInt8.ofNat (16 * dg l (2 * j) + dg l (2 * j + 1))
theorem pM_succ (l : List UInt8) (k : Nat) : pM l (k + 1) = pM l k ++ [UInt8.ofNat (16 * dg l (2 * k) + dg l (2 * k + 1))] := by
  rw [pM, List.range_succ, List.map_append]; rfl
/-- What the two digits of a byte come to, t of them read. -/
def pX (l : List UInt8) (k t : Nat) : Nat := if t = 0 then 0 else if t = 1 then dg l (2 * k) else 16 * dg l (2 * k) + dg l (2 * k + 1)
theorem pX_step (l : List UInt8) (k t : Nat) (h : t < 2) : pX l k t < 16 ∧ pX l k (t + 1) = 16 * pX l k t + dg l (2 * k + t) := by
  rcases (show t = 0 ∨ t = 1 by omega) with rfl | rfl
  · exact ⟨by simp [pX], by simp [pX]⟩
  · exact ⟨by simp [pX]; exact dg_lt _ _, by simp [pX]⟩
theorem src_byte {w : World} {g : Nat} {v : Value} (h : Blk w g 5 #[v]) (h1 : v.oneCell' = true) : Src Tryz.prog 1 27 (.slice (some ⟨g, 0, none⟩) 1 1) 1 [v] w := by
  refine Src.ofSlice _ Tryz.underlying27 _ 1 1 _ rfl (fun j u hu => ?_) (fun u hu => by
    rw [List.mem_singleton.1 hu]; exact h1)
  rw [Addr.add_mid, Nat.zero_add, h.cell, ← hu]
  simp

set_option maxRecDepth 100000 in
set_option maxHeartbeats 8000000 in
theorem bytesl_any (s : ByteArray) (w : World) (hs : s.size ≤ 100000) (hne : s.data.toList ≠ []) :
    Calls Tryz.prog 22 #[.string s] w fun e w' => e = .returned (.tuple #[.string ⟨((bytesO s.data.toList).getD []).toArray⟩, .bool (bytesO s.data.toList).isSome]) ∧ Below w.heap.size w w' := by
  obtain ⟨i0, hi0, hz0, hz1, hz2⟩ := info_parts info5z
  obtain ⟨l, el⟩ : ∃ l, l = s.data.toList := ⟨_, rfl⟩
  rw [← el] at hne ⊢
  by_cases h45 : l = [45]
  · have : s = ⟨#[45]⟩ := by apply ba_ext3; rw [← el, h45]
    subst this
    rw [h45]
    clear el h45 hne
    go_enter Tryz.func22, Tryz.ntmps22
    go_wp2
    exact bodyPost_ret (v := .tuple #[.string ⟨#[]⟩, .bool true]) (by simp [results, Tryz.f22, go_sem]) rfl ⟨rfl, Below.refl _ _⟩
  · have hO : bytesO l = bytesF l := by rw [bytesO, if_neg h45]
    rw [hO]
    obtain ⟨R, eR⟩ : ∃ R, R = bytesF l := ⟨_, rfl⟩
    rw [← eR]
    have hln : l.length = s.size := by rw [el]; rfl
    have hbt : ∀ i, bt s i = l.getD i 0 := fun i => by rw [el]; rfl
    have hq1 : ¬ s.toList = [45] := fun e => h45 (by rw [el, ← Lib.toList_data, e])
    have hq2 : (s.toList == [45]) = false := by rw [beq_eq_false_iff_ne]; exact hq1
    have hq3 : ¬ s.toList = [] := fun e => hne (by rw [el, ← Lib.toList_data, e])
    have hq4 : (s.toList == []) = false := by rw [beq_eq_false_iff_ne]; exact hq3
    have hpos : 0 < s.size := by rw [← hln]; exact List.length_pos_iff.2 hne
    have HL := Lib.hid (And.intro el (And.intro hln (And.intro hbt eR)))
    clear el hln hbt hO h45 hne eR
    by_cases hpar : s.size % 2 = 1
    · have hp1 : (s.size : Int).tmod 2 = 1 := by rw [Int.tmod_eq_emod_of_nonneg (by omega)]; omega
      have hp2 : (s.size : Int) % 2 = 1 := by omega
      go_enter Tryz.func22, Tryz.ntmps22
      go_wp2
      have hn : bytesF l = none := bytesF_odd (s.size / 2) l (by rw [HL.out.2.1]; omega)
      have hR : R = none := by rw [HL.out.2.2.2, hn]
      subst hR
      exact bodyPost_ret (v := .tuple #[.string ⟨#[]⟩, .bool false]) (by simp [results, Tryz.f22, go_sem]) rfl ⟨rfl, Below.refl _ _⟩
    · have hp1 : (s.size : Int).tmod 2 = 0 := by rw [Int.tmod_eq_emod_of_nonneg (by omega)]; omega
      have hp2 : (s.size : Int) % 2 = 0 := by omega
      obtain ⟨m, em⟩ : ∃ m, m = s.size / 2 := ⟨_, rfl⟩
      have hm2 : s.size = 2 * m := by omega
      have HM := Lib.hid hm2
      have hm5 : m ≤ 50000 := by omega
      clear em hm2
      go_enter Tryz.func22, Tryz.ntmps22
      go_wp2
      go_loopw [4, 5, 6, 7, 8, 35, 48] (fun t4 t5 _ _ _ _ _ wr => ∃ (k a c : Nat) (p : Option Addr), t4 = .slice p k c ∧ t5 = .int .i64 (a : Int) ∧ Hid (a = 2 * k) ∧ k ≤ m ∧ wr.ownsRow w.heap.size 5 1 (.slice p k c) k ((pM l k).map B) ∧ Hid (∀ j, j < a → (unD (l.getD j 0)).isSome) ∧ Below w.heap.size w wr) (fun _ t5 _ _ _ _ _ _ => 2 * m - (intOf t5).toNat)
      case atStart => exact ⟨0, 0, 0, none, rfl, rfl, Lib.hid rfl, by omega, World.ownsRow_nil _ _ _ _, Lib.hid (fun j hj => by omega), Below.refl _ _⟩
      case round =>
        obtain ⟨k, a, c, p, rfl, rfl, HA, hk, hR, HG, hb⟩ := hrel
        by_cases h1 : k < m
        · have ha1 : (a : Int) < (s.size : Int) := by have := HA.out; have := HM.out; omega
          have ha2 : a ≤ 100000 := by have := HA.out; omega
          obtain ⟨wo, ewo⟩ : ∃ wo : World, wo = wr := ⟨_, rfl⟩
          subst ewo
          have HW := Lib.hid (And.intro hR hb)
          clear hR hb
          go_wp2
          go_loopw [6, 7, 8, 35, 48] (fun t6 t7 _ _ _ wr => ∃ (t X y : Nat), t6 = .int .i64 (X : Int) ∧ t7 = .int .i64 (y : Int) ∧ y = a + t ∧ t ≤ 2 ∧ Hid (X = pX l k t) ∧ Hid (∀ j, j < a + t → (unD (l.getD j 0)).isSome) ∧ wr = wo) (fun _ t7 _ _ _ _ => a + 2 - (intOf t7).toNat)
          case atStart => exact ⟨0, 0, a, rfl, rfl, rfl, by omega, Lib.hid rfl, Lib.hid HG.out, rfl⟩
          case round =>
            obtain ⟨t, X, y, rfl, rfl, hy, ht, HX, HG2, rfl⟩ := hrel
            by_cases h2 : t < 2
            · have hyl : y < s.size := by have := HA.out; have := HM.out; omega
              obtain ⟨cc, ec⟩ : ∃ cc, cc = l.getD y 0 := ⟨_, rfl⟩
              have hbi : bt s y = cc := by rw [HL.out.2.2.1, ec]
              obtain ⟨n, en⟩ : ∃ n, n = cc.toNat := ⟨_, rfl⟩
              have hX16 := pX_step l k t h2
              rw [← HX.out] at hX16
              have hXb := hX16.1
              have hya : (y : Int) < (a : Int) + 2 := by omega
              have HC := Lib.hid (And.intro ec (And.intro en (And.intro hX16.2 hy)))
              have hncc : (cc.toNat : Int) = (n : Int) := by rw [en]
              have hn256 : n < 256 := by rw [en]; exact cc.toNat_lt
              clear ec en hX16 hy
              have hfin : ∀ d, unD cc = some d → ∀ z : Int, z = ((16 * X + d : Nat) : Int) → (∃ t' X' y' : Nat, Value.int .i64 z = Value.int .i64 (X' : Int) ∧ Value.int .i64 ((y : Int) + 1) = Value.int .i64 (y' : Int) ∧ y' = a + t' ∧ t' ≤ 2 ∧ Hid (X' = pX l k t') ∧ Hid (∀ j, j < a + t' → (unD (l.getD j 0)).isSome) ∧ True) := fun d hd z hz => by
                refine ⟨t + 1, 16 * X + d, y + 1, by rw [hz], by go_num, by have := HC.out.2.2.2; omega, by omega, Lib.hid ?_, Lib.hid (fun j hj => ?_), trivial⟩
                · have e1 : 2 * k + t = y := by have := HC.out.2.2.2; have := HA.out; omega
                  rw [HC.out.2.2.1, e1, dg, ← HC.out.1, hd]; rfl
                · rcases Nat.lt_or_ge j (a + t) with g | g
                  · exact HG2.out j g
                  · have e1 : j = y := by have := HC.out.2.2.2; omega
                    rw [e1, ← HC.out.1, hd]; rfl
              have HF := Lib.hid hfin
              clear hfin
              by_cases hA : 48 ≤ n ∧ n ≤ 57
              · have hA1 : (48 : Int) ≤ (n : Int) := by omega
                have hA2 : (n : Int) ≤ 57 := by omega
                go_wp2
                have hd : unD cc = some (n - 48) := by rw [unD, ← HC.out.2.1, if_pos hA]
                exact ⟨HF.out (n - 48) hd _ (by omega), by simp [intOf]; omega⟩
              · by_cases hB : 97 ≤ n ∧ n ≤ 102
                · have hB1 : (48 : Int) ≤ (n : Int) := by omega
                  have hB2 : (57 : Int) < (n : Int) := by omega
                  have hB3 : (97 : Int) ≤ (n : Int) := by omega
                  have hB4 : (n : Int) ≤ 102 := by omega
                  go_wp2
                  have hd : unD cc = some (n - 87) := by rw [unD, ← HC.out.2.1, if_neg hA, if_pos hB]
                  exact ⟨HF.out (n - 87) hd _ (by omega), by simp [intOf]; omega⟩
                · have hd : unD cc = none := by rw [unD, ← HC.out.2.1, if_neg hA, if_neg hB]
                  have hn : bytesF l = none := bytesF_bad l.length l y (Nat.le_refl _) (by rw [HL.out.2.1]; exact hyl) (by rw [← HC.out.1]; exact hd)
                  have hR : R = none := by rw [HL.out.2.2.2, hn]
                  have HR := Lib.hid hR
                  have hcase : (n : Int) < 48 ∨ ((48 : Int) ≤ (n : Int) ∧ (57 : Int) < (n : Int) ∧ (n : Int) < 97) ∨ ((48 : Int) ≤ (n : Int) ∧ (57 : Int) < (n : Int) ∧ (97 : Int) ≤ (n : Int) ∧ (102 : Int) < (n : Int)) := by omega
                  clear hd hn hR HF
                  rcases hcase with g1 | ⟨g1, g2, g3⟩ | ⟨g1, g2, g3, g4⟩
                  all_goals
                    go_wp2
                    have hR := HR.out
                    subst hR
                    exact bodyPost_ret (v := .tuple #[.string ⟨#[]⟩, .bool false]) (by simp [results, Tryz.f22, go_sem]) rfl ⟨rfl, HW.out.2⟩
            · obtain rfl : t = 2 := by omega
              have hX2 : X = 16 * dg l (2 * k) + dg l (2 * k + 1) := by rw [HX.out]; simp [pX]
              have hX256 : X < 256 := by have h1 := dg_lt l (2 * k); have h2 := dg_lt l (2 * k + 1); omega
              have hBX : B (UInt8.ofNat X) = .int .u8 (X : Int) := by
                show Value.int .u8 _ = _
                rw [UInt8.toNat_ofNat']
                congr 1
                omega
              have hba : Below wr.heap.size wr (wr.alloc (.cells #[.int .u8 (X : Int)] 5)) := (Below.refl _ _).alloc (Nat.le_refl _) _
              have hRa := row_below HW.out.1 hba
              have hsrc := src_byte (Blk.new wr 5 #[.int .u8 (X : Int)]) rfl
              have b1 : k + 1 ≤ maxLen := by simp only [maxLen]; omega
              have b2 : (k + 1) * 1 ≤ 140737488355328 := by omega
              have HS := Lib.hid (And.intro hRa (And.intro hsrc (And.intro (HW.out.2.trans (hba.mono HW.out.2.size)) (And.intro hBX hX2))))
              have HY := Lib.hid hy
              have hyge : (a : Int) + 2 ≤ (y : Int) := by omega
              have hwX : (X : Int) % 256 = (X : Int) := by omega
              clear hRa hsrc hba hBX hX2 hy
              go_wp2_with (at_builtin; refine wpList_app (d := 66) _ w.heap.size 5 i0 (.int .u8 0) 1 1 Tryz.underlying27 hi0 hz0 hz1 hz2 rfl (.slice p k c) k _ rfl HS.out.1 _ 1 _ rfl HS.out.2.1 b1 b2 HS.out.2.2.1.size ?_; intro v8 w8 hR8 hg8 _ _; obtain ⟨p8, c8, rfl⟩ := row_slice hR8; simp only [List.setIfInBounds_toArray, List.set_cons_succ, List.set_cons_zero])
              have hb8 := HS.out.2.2.1.grown hg8 HS.out.2.2.1.size (fun g e => (HS.out.1.lt g e).1)
              have hR9 : w8.ownsRow w.heap.size 5 1 (.slice p8 (k + 1) c8) (k + 1) ((pM l (k + 1)).map B) := by
                rw [pM_succ, List.map_append, ← HS.out.2.2.2.2]
                show w8.ownsRow _ _ _ _ _ (_ ++ [B (UInt8.ofNat X)])
                rw [HS.out.2.2.2.1]
                exact hR8
              exact ⟨⟨k + 1, a + 2, c8, p8, rfl, by go_num, Lib.hid (by have := HA.out; omega), by omega, hR9, Lib.hid HG2.out, hb8⟩, by have := HA.out; simp [intOf]; omega⟩
        · obtain rfl : k = m := by omega
          have ha : (a : Int) = (s.size : Int) := by have := HA.out; have := HM.out; omega
          have hall := bytesF_all k l (by rw [HL.out.2.1]; exact HM.out) (fun j hj => HG.out j (by have := HA.out; have := HM.out; rw [HL.out.2.1] at hj; omega))
          have hall2 : bytesF l = some (pM l k) := hall
          obtain ⟨M, eM⟩ : ∃ M, M = pM l k := ⟨_, rfl⟩
          rw [← eM] at hall2 hR
          have hMl : k = M.length := by rw [eM, pM]; simp
          have hcv := run_str_own wr w.heap.size p c k M hMl hR
          have hRM : R = some M := by rw [HL.out.2.2.2, hall2]
          subst hRM
          clear hall hall2 eM hMl hR
          go_wp2
          exact bodyPost_ret (v := .tuple #[.string ⟨M.toArray⟩, .bool true]) (by simp [results, Tryz.f22, go_sem]) rfl ⟨rfl, hb⟩
end Go.Proofs.YtmhbkilpllgchaaGreatDoor
