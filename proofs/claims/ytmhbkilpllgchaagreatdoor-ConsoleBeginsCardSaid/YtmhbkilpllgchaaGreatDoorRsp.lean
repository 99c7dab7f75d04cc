/- The reference's Split. -/
import Derived.Test.YtmhbkilpllgchaaGreatDoorMgSpl
import Derived.Test.YtmhbkilpllgchaaGreatDoorTagE
namespace Go.Proofs.YtmhbkilpllgchaaGreatDoor
open Go.RowKit BigFrame
set_option linter.unusedVariables false
set_option linter.unusedSimpArgs false

/-- How far the reference is: names done, and what lies ahead of the place. -/
def Far (l : List UInt8) (f i : Nat) (ns : List ByteArray) : Prop :=
  (i ≤ l.length ∧ f ≤ i ∧ splitL (l.drop 1) = ns.map (fun x => x.data.toList) ++ splitL (l.drop f) ∧ ∀ b ∈ (l.drop f).take (i - f), b ≠ 47) ∨
  (i = l.length + 1 ∧ f = l.length + 1 ∧ splitL (l.drop 1) = ns.map (fun x => x.data.toList))
theorem Far.on {l : List UInt8} {f i : Nat} {ns : List ByteArray} (h : Far l f i ns) (hi : i < l.length) (hb : l[i] ≠ 47) : Far l f (i + 1) ns := by
  rcases h with ⟨h1, h2, h3, h4⟩ | ⟨h1, _⟩
  · refine .inl ⟨by omega, by omega, h3, ?_⟩
    have e : (l.drop f).take (i + 1 - f) = (l.drop f).take (i - f) ++ [l[i]] := by
      rw [show i + 1 - f = (i - f) + 1 by omega, List.take_succ_eq_append_getElem (by rw [List.length_drop]; omega)]
      congr 2
      simp only [List.getElem_drop]
      congr 1
      omega
    rw [e]
    intro b hbm
    rcases List.mem_append.1 hbm with h | h
    · exact h4 b h
    · simp at h; rw [h]; exact hb
  · omega
theorem Far.name {l : List UInt8} {f i : Nat} {ns : List ByteArray} (h : Far l f i ns) (hi : i ≤ l.length) (hb : ∀ hlt : i < l.length, l[i] = 47) :
    f ≤ i ∧ ∃ rest, splitL (l.drop 1) = ns.map (fun x => x.data.toList) ++ (l.drop f).take (i - f) :: rest ∧ Far l (i + 1) (i + 1) (ns ++ [bs ((l.drop f).take (i - f))]) := by
  rcases h with ⟨h1, h2, h3, h4⟩ | ⟨h1, _⟩
  · refine ⟨h2, ?_⟩
    by_cases hlt : i < l.length
    · have e : l.drop f = (l.drop f).take (i - f) ++ 47 :: l.drop (i + 1) := by
        conv => lhs; rw [← List.take_append_drop (i - f) (l.drop f)]
        congr 1
        rw [List.drop_drop, show f + (i - f) = i by omega, List.drop_eq_getElem_cons hlt, hb hlt]
      have e2 : splitL (l.drop f) = (l.drop f).take (i - f) :: splitL (l.drop (i + 1)) := by
        conv => lhs; rw [e]
        exact splitL_cut _ _ h4
      rw [e2] at h3
      exact ⟨_, h3, .inl ⟨by omega, Nat.le_refl _, by rw [h3, List.map_append]; simp [bs_list], by simp⟩⟩
    · have ei : i = l.length := by omega
      have e : (l.drop f).take (i - f) = l.drop f := List.take_of_length_le (by rw [List.length_drop]; omega)
      rw [e] at h4 ⊢
      rw [splitL_one _ h4] at h3
      exact ⟨[], h3, .inr ⟨by omega, by omega, by rw [h3, List.map_append]; simp [bs_list]⟩⟩
  · omega

set_option maxRecDepth 100000 in
set_option maxHeartbeats 4000000 in
theorem rsplit_main (s : ByteArray) (w : World) (hs : s.size ≤ 128) (h47 : s.data.toList.head? = some 47) (hne : s.data.toList ≠ [47]) : Calls Tryz.prog 46 #[.string s] w (SplitPost s.data.toList w) := by
  obtain ⟨i0, hi0, hz0, hz1, hz2⟩ := info_parts info9
  obtain ⟨n, en⟩ : ∃ n, n = s.size := ⟨_, rfl⟩
  have el : s.data.toList.length = s.size := rfl
  have hn2 : 2 ≤ s.size := by
    cases hs2 : s.data.toList with
    | nil => rw [hs2] at h47; cases h47
    | cons b l =>
      rw [hs2] at el
      cases l with
      | nil => rw [hs2] at h47 hne; injection h47 with h47; rw [h47] at hne; exact absurd rfl hne
      | cons c l => simp at el; omega
  have h1 : (s.size : Int) ≤ 128 := by omega
  have heq : (s.toList == [47]) = false := by rw [Lib.toList_data, beq_eq_false_iff_ne]; exact hne
  have heq2 : ¬ s.toList = [47] := by rw [Lib.toList_data]; exact hne
  have hem : (s.toList.isEmpty) = false := by
    rw [Lib.toList_data]
    cases hs2 : s.data.toList with
    | nil => rw [hs2] at h47; cases h47
    | cons b l => rfl
  have hem2 : s.toList ≠ [] := by
    rw [Lib.toList_data]
    intro e
    rw [e] at h47; cases h47
  have hb0 : bt s 0 = 47 := by
    rw [bt, List.getD]
    cases hs2 : s.data.toList with
    | nil => rw [hs2] at h47; cases h47
    | cons b l =>
      rw [hs2] at h47
      have e : b = 47 := Option.some.inj h47
      rw [e]
      first | done | rfl
  have hnl : namesL s.data.toList = if (splitL (s.data.toList.drop 1)).all nameL = true ∧ (splitL (s.data.toList.drop 1)).length ≤ 8 then some (splitL (s.data.toList.drop 1)) else none := by
    rw [namesL, if_pos ⟨by omega, h47⟩, if_neg hne]
  have HNL := Lib.hid (And.intro hnl en)
  have hpos : 0 < s.size := by omega
  have hF0 : Far s.data.toList 1 1 [] := .inl ⟨by omega, Nat.le_refl _, by simp, by simp⟩
  clear h47 hne hnl en el
  go_enter Tryz.func46, Tryz.ntmps46
  go_wp2
  go_loopw [4, 5, 6] (fun v f i wr => ∃ (p : Option Addr) (k c f' i' : Nat) (ns : List ByteArray) (xs : List Value), v = .slice p k c ∧ f = .int .i64 (f' : Int) ∧ i = .int .i64 (i' : Int) ∧ 1 ≤ f' ∧ f' ≤ i' ∧ i' ≤ s.size + 1 ∧ k ≤ i' ∧ wr.ownsRow w.heap.size 9 1 (.slice p k c) k xs ∧ Hid (k = ns.length) ∧ Hid (xs = ns.map Value.string) ∧ Hid (Far s.data.toList f' i' ns) ∧ Hid (∀ x ∈ ns, nameB x = true) ∧ Below w.heap.size w wr) (fun _ _ i _ => s.size + 2 - (intOf i).toNat)
  case atStart => exact ⟨none, 0, 0, 1, 1, [], [], rfl, rfl, rfl, by omega, by omega, by omega, by omega, World.ownsRow_nil _ _ _ _, Lib.hid rfl, Lib.hid rfl, Lib.hid hF0, Lib.hid (fun x hx => by cases hx), Below.refl _ _⟩
  case round =>
    clear hF0
    obtain ⟨p, k, c, f, i, ns, xs, rfl, rfl, rfl, hf1, hfi, hin, hki, hR, HK, HXS, HF, HALL, hbw⟩ := hrel
    have hwr := hbw.size
    by_cases hi : i ≤ s.size
    · have hi' : (i : Int) ≤ (s.size : Int) := by omega
      obtain ⟨b, hb⟩ : ∃ b, b = bt s i := ⟨_, rfl⟩
      by_cases hcase : i < s.size ∧ b ≠ 47
      · obtain ⟨hlt, h47⟩ := hcase
        have hF2 := HF.out.on (by show i < s.data.toList.length; exact hlt) (by
          have : s.data.toList[i]'hlt = b := by rw [hb, bt, List.getD, List.getElem?_eq_getElem hlt]; rfl
          rw [this]; exact h47)
        have HF2 := Lib.hid hF2
        have hb' := hb.symm
        have n47 : ((b.toNat : Int) == 47) = false := by rw [beq_eq_false_iff_ne]; exact fun e => h47 ((u8_ne b 47).1 e)
        have n47' : (!((b.toNat : Int) == 47)) = true := by rw [n47]; rfl
        have hlt' : (i : Int) < (s.size : Int) := by omega
        clear hb h47 hF2
        go_wp2
        go_roundw
        case rel => exact ⟨p, k, c, f, i + 1, ns, xs, rfl, rfl, by go_num, hf1, by omega, by omega, by omega, hR, HK, HXS, HF2, HALL, hbw⟩
        case measure => simp [intOf]; omega
      · have hname := HF.out.name hi (fun hlt => by
          have e : s.data.toList[i]'hlt = b := by rw [hb, bt, List.getD, List.getElem?_eq_getElem hlt]; rfl
          rw [e]
          exact Decidable.byContradiction fun h => hcase ⟨hlt, h⟩)
        obtain ⟨_, rest, hrest, hF2⟩ := hname
        obtain ⟨x, ex⟩ : ∃ x, x = s.extract f i := ⟨_, rfl⟩
        have hxl : x.data.toList = (s.data.toList.drop f).take (i - f) := by
          rw [ex, ByteArray.data_extract, Array.toList_extract, List.extract_eq_take_drop]
        have hxs : x.size ≤ 128 := by rw [ex, ByteArray.size_extract]; omega
        have hsl : ∀ w', (Instr.slice 9 (.string s) (some (.int .i64 (f : Int))) (some (.int .i64 (i : Int))) none).run Tryz.prog w' = .ok (.string x) w' := fun w' => by
          have := run_slice_string (P := Tryz.prog) w' 9 s .i64 .i64 (f : Int) (i : Int) Tryz.underlying9 (by omega) (by omega) (by omega)
          rw [Int.toNat_natCast, Int.toNat_natCast, ← ex] at this
          exact this
        have hxb : bs ((s.data.toList.drop f).take (i - f)) = x := by rw [← hxl, bs_of]
        rw [hxb] at hF2
        rw [← hxl] at hrest
        have hn := rname_any x wr (by omega)
        have HS := Lib.hid (And.intro hrest (And.intro hF2 ex))
        have htest : (i < s.size ∧ bt s i = 47) ∨ i = s.size := by
          by_cases hlt : i < s.size
          · exact .inl ⟨hlt, by rw [← hb]; exact Decidable.byContradiction fun h => hcase ⟨hlt, h⟩⟩
          · exact .inr (by omega)
        have htest2 : (((i : Int) < (s.size : Int)) ∧ i < s.size ∧ bt s i = 47) ∨ ((s.size : Int) ≤ (i : Int)) := by
          rcases htest with h | h
          · exact .inl ⟨by omega, h⟩
          · exact .inr (by omega)
        clear hrest hF2 hxb hxl ex hb hcase htest
        cases hb : nameB x with
        | false =>
          rw [hb] at hn
          have HN := Lib.hid hn
          have hno : namesL s.data.toList = none := by
            rw [HNL.out.1, if_neg]
            rintro ⟨h2, _⟩
            have := List.all_eq_true.1 h2 x.data.toList (by rw [HS.out.1]; simp)
            rw [nameB, this] at hb
            cases hb
          have HNO := Lib.hid hno
          clear hn hb hno
          rcases htest2 with ⟨g1, g2, g3⟩ | g1
          all_goals
            go_wp2_with fail
            refine HN.out.mono ?_
            rintro e _ ⟨rfl, rfl⟩
            go_wp2
            go_ret2
            exact split_no HNO.out rfl hbw
        | true =>
          rw [hb] at hn
          have HN := Lib.hid hn
          have HB := Lib.hid hb
          have hRA : (wr.alloc (.cells #[.string x] 9)).ownsRow w.heap.size 9 1 (.slice p k c) k xs := own_kept hR (World.grownBy_alloc wr _ none) (fun r e => by cases e)
          have hsrc : Src Tryz.prog 1 28 (.slice (some ⟨wr.heap.size, 0, none⟩) 1 1) 1 [.string x] (wr.alloc (.cells #[.string x] 9)) := by
            have := src_strs (strs_new (w := wr.alloc (.cells #[.string x] 9)) [x] (Blk.new wr 9 _)) 1
            exact this
          have b1 : k + 1 ≤ maxLen := by simp only [maxLen]; omega
          have b2 : (k + 1) * 16 ≤ 140737488355328 := by omega
          have b3 : w.heap.size ≤ (wr.alloc (.cells #[.string x] 9)).heap.size := by rw [World.size_alloc]; omega
          have hBA : Below w.heap.size w (wr.alloc (.cells #[.string x] 9)) := hbw.alloc hwr _
          clear hn hb
          rcases htest2 with ⟨g1, g2, g3⟩ | g1
          all_goals
            go_wp2_with fail
            refine HN.out.mono ?_
            rintro e _ ⟨rfl, rfl⟩
            go_wp2_with (at_builtin; refine wpList_app _ w.heap.size 9 i0 (.string ⟨#[]⟩) 1 16 Tryz.underlying28 hi0 hz0 hz1 hz2 rfl (.slice p k c) k xs rfl hRA (.slice (some ⟨wr.heap.size, 0, none⟩) 1 1) 1 [.string x] rfl hsrc b1 b2 b3 ?_; intro v5 w5 hR5 hg5 _ _; obtain ⟨p5, c5, rfl⟩ := row_slice hR5; simp only [List.setIfInBounds_toArray, List.set_cons_succ, List.set_cons_zero])
            go_roundw
            case rel => exact ⟨p5, k + 1, c5, i + 1, i + 1, ns ++ [x], xs ++ [.string x], rfl, by go_num, by go_num, by omega, by omega, by omega, by omega, hR5, Lib.hid (by rw [List.length_append, ← HK.out]; rfl), Lib.hid (by rw [List.map_append, ← HXS.out]; rfl), Lib.hid HS.out.2.1,
              Lib.hid (fun y hy => by
                rcases List.mem_append.1 hy with h | h
                · exact HALL.out y h
                · simp at h; rw [h]; exact HB.out), hBA.grown hg5 b3 (fun g e => (hRA.lt g e).1)⟩
            case measure => simp [intOf]; omega
    · have hi' : (s.size : Int) < (i : Int) := by omega
      have hall : splitL (s.data.toList.drop 1) = ns.map (fun x => x.data.toList) := by
        rcases HF.out with ⟨h1, _⟩ | ⟨_, _, h3⟩
        · have : s.data.toList.length = s.size := rfl
          omega
        · exact h3
      have hgood : (splitL (s.data.toList.drop 1)).all nameL = true := by
        rw [hall, List.all_eq_true]
        intro y hy
        obtain ⟨x, hx, rfl⟩ := List.mem_map.1 hy
        exact HALL.out x hx
      by_cases h8 : k ≤ 8
      · have hyes : namesL s.data.toList = some (splitL (s.data.toList.drop 1)) := by
          rw [HNL.out.1, if_pos ⟨hgood, by rw [hall, List.length_map, ← HK.out]; exact h8⟩]
        have hokN : okN s.data.toList = ns := by
          rw [okN, hyes]
          show (splitL _).map bs = ns
          rw [hall, List.map_map]
          conv => rhs; rw [← List.map_id ns]
          exact List.map_congr_left (fun x _ => bs_of x)
        have hokE : okE s.data.toList = 0 := by rw [okE, hyes]
        have h8' : (k : Int) ≤ 8 := by omega
        have hRR := hR
        rw [HXS.out, HK.out] at hRR
        have HO := Lib.hid (And.intro hokN (And.intro hokE (strs_of_row hRR)))
        clear hyes hokN hokE hall hgood hRR
        go_wp2
        go_ret2
        refine ⟨p, c, ?_, by rw [HO.out.1]; exact HO.out.2.2, hbw, by rw [HO.out.1, ← HK.out]; exact rowS_cap hR⟩
        rw [HO.out.1, HO.out.2.1, ← HK.out]
        rfl
      · have hno : namesL s.data.toList = none := by
          rw [HNL.out.1, if_neg]
          rintro ⟨_, h2⟩
          rw [hall, List.length_map, ← HK.out] at h2
          exact h8 h2
        have HNO := Lib.hid hno
        have h8' : (8 : Int) < (k : Int) := by omega
        clear hno hall hgood h8
        go_wp2
        go_ret2
        exact split_no HNO.out rfl hbw

set_option maxRecDepth 100000 in
set_option maxHeartbeats 1000000 in
/-- **The reference's Split.** -/
theorem rsplit_any (s : ByteArray) (w : World) (hs : s.size ≤ 140737488351232) : Calls Tryz.prog 46 #[.string s] w (SplitPost s.data.toList w) := by
  have el : s.data.toList.length = s.size := rfl
  by_cases h1 : 128 < s.size ∨ s.data.toList.head? ≠ some 47
  · have hn : namesL s.data.toList = none := by
      rw [namesL, if_neg]
      rintro ⟨g1, g2⟩
      rcases h1 with h | h
      · omega
      · exact h g2
    have HN := Lib.hid hn
    by_cases h2 : 128 < s.size
    · have h2' : (128 : Int) < (s.size : Int) := by omega
      clear h1 hn h2
      go_enter Tryz.func46, Tryz.ntmps46
      go_wp2
      go_ret2
      exact split_no HN.out rfl (Below.refl _ _)
    · have h2' : (s.size : Int) ≤ 128 := by omega
      by_cases h3 : s.toList = []
      · have h3' : s.toList.isEmpty = true := by rw [h3]; rfl
        clear h1 hn h2
        go_enter Tryz.func46, Tryz.ntmps46
        go_wp2
        go_ret2
        exact split_no HN.out rfl (Below.refl _ _)
      · have h3' : s.toList.isEmpty = false := by
          cases hs2 : s.toList with
          | nil => exact absurd hs2 h3
          | cons b l => rfl
        have hpos : 0 < s.size := by
          rw [Lib.toList_data] at h3
          cases hs2 : s.data.toList with
          | nil => exact absurd hs2 h3
          | cons b l => rw [← el, hs2]; simp
        have hb0 : bt s 0 ≠ 47 := by
          intro e
          rcases h1 with h | h
          · omega
          · apply h
            rw [bt, List.getD] at e
            cases hs2 : s.data.toList with
            | nil => rw [hs2] at el; simp at el; omega
            | cons b l => rw [hs2] at e; simpa using e
        obtain ⟨b, hb⟩ : ∃ b, b = bt s 0 := ⟨_, rfl⟩
        rw [← hb] at hb0
        have hb' := hb.symm
        have n47 : ((b.toNat : Int) == 47) = false := by rw [beq_eq_false_iff_ne]; exact fun e => hb0 ((u8_ne b 47).1 e)
        have n47' : (!((b.toNat : Int) == 47)) = true := by rw [n47]; rfl
        have n47b : ((b.toNat : Int) != 47) = true := by rw [bne, n47]; rfl
        clear h1 hn h2 hb hb0 el
        go_enter Tryz.func46, Tryz.ntmps46
        go_wp2
        go_ret2
        exact split_no HN.out rfl (Below.refl _ _)
  · by_cases h2 : s.data.toList = [47]
    · have hn : namesL s.data.toList = some [] := by rw [h2]; rfl
      have HN := Lib.hid hn
      have hz : (s.size : Int) = 1 := by rw [← el, h2]; rfl
      have h2' : (s.size : Int) ≤ 128 := by omega
      have hpos : 0 < s.size := by omega
      have heq : (s.toList == [47]) = true := by rw [Lib.toList_data, h2]; rfl
      have heq2 : s.toList = [47] := by rw [Lib.toList_data, h2]
      have hem : s.toList.isEmpty = false := by rw [heq2]; rfl
      have hem2 : s.toList ≠ [] := by rw [heq2]; simp
      have hb0 : bt s 0 = 47 := by rw [bt, h2]; rfl
      have HQ := Lib.hid heq2
      clear h1 h2 hn hz el heq2
      go_enter Tryz.func46, Tryz.ntmps46
      go_wp2
      go_ret2
      refine ⟨none, 0, ?_, ?_, Below.refl _ _, by rw [okN, HN.out]; exact Nat.le_refl _⟩
      · rw [okN, okE, HN.out]; rfl
      · rw [okN, HN.out]; exact ⟨fun _ => rfl, fun a e => by cases e⟩
    · exact rsplit_main s w (by omega) (Decidable.byContradiction fun h => h1 (.inr h)) h2
end Go.Proofs.YtmhbkilpllgchaaGreatDoor
