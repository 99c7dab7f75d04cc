/- FileBack in plain Lean: what is wanting, round by round. -/
import Derived.Test.YtmhbkilpllgchaaFtV
namespace Go.Proofs.Ytmhbkilpllgchaa
open Go.RowKit
set_option linter.unusedVariables false
set_option linter.unusedSectionVars false

theorem mem_onceH {all : List (List UInt8)} {s x : List UInt8} : x ∈ onceH all s ↔ x ∈ all ∨ x = s := by
  unfold onceH
  split
  · rename_i h
    exact ⟨.inl, fun h2 => h2.elim id (fun e => e ▸ h)⟩
  · simp
theorem onceH_nodup {all : List (List UInt8)} (s : List UInt8) (h : all.Nodup) : (onceH all s).Nodup := by
  unfold onceH
  split
  · exact h
  · rename_i hn
    rw [List.nodup_append]
    refine ⟨h, by simp, fun a ha b hb e => ?_⟩
    rw [List.mem_singleton] at hb
    exact hn (by rw [← hb, ← e]; exact ha)
theorem mem_foldl_onceH {x : List UInt8} : ∀ (ss all : List (List UInt8)), x ∈ ss.foldl onceH all ↔ x ∈ all ∨ x ∈ ss
  | [], all => by simp
  | s :: ss, all => by
    rw [List.foldl_cons, mem_foldl_onceH ss, mem_onceH, List.mem_cons]
    exact or_assoc
theorem foldl_onceH_nodup : ∀ (ss all : List (List UInt8)), all.Nodup → (ss.foldl onceH all).Nodup
  | [], all, h => h
  | s :: ss, all, h => by
    rw [List.foldl_cons]
    exact foldl_onceH_nodup ss _ (onceH_nodup s h)
theorem foldl_onceH_ne {ss : List (List UInt8)} (h : ss ≠ []) : ss.foldl onceH [] ≠ [] := fun e => by
  cases ss with
  | nil => exact h rfl
  | cons s ss =>
    have := (mem_foldl_onceH (x := s) (s :: ss) []).2 (.inr (by simp))
    rw [e] at this
    cases this

theorem getD_at {hs : List (List UInt8)} {j : Nat} (h : j < hs.length) : hs.getD j [] = hs[j] := by
  rw [List.getD, List.getElem?_eq_getElem h, Option.getD_some]
theorem stI_none {kv : KV} {hs : List (List UInt8)} (h : ∀ x ∈ hs, findL kv x = none) (many : Nat) (ws : List (List UInt8)) (b : Bool) : ∀ j, j ≤ hs.length → stI kv many hs ws b j = ([], (hs.take j).foldl onceH ws, b)
  | 0, _ => by rw [stI, List.take_zero]; rfl
  | j + 1, hj => by
    have hf := h _ (List.getElem_mem (show j < hs.length by omega))
    have ih := stI_none h many ws b j (by omega)
    have hg : hs.getD j [] = hs[j] := getD_at (by omega)
    simp only [stI, ih, hg, namedH, namedB, wantsG, hf, Option.isSome_none]
    rw [List.take_succ_eq_append_getElem (by omega), List.foldl_append]
    rfl
theorem stB_none {kv : KV} {hs : List (List UInt8)} (h : ∀ x ∈ hs, findL kv x = none) (size : Nat) (ws : List (List UInt8)) (b : Bool) : ∀ j, j ≤ hs.length → stB kv size hs ws b j = ([], (hs.take j).foldl onceH ws, b)
  | 0, _ => by rw [stB, List.take_zero]; rfl
  | j + 1, hj => by
    have hf := h _ (List.getElem_mem (show j < hs.length by omega))
    have ih := stB_none h size ws b j (by omega)
    have hg : hs.getD j [] = hs[j] := getD_at (by omega)
    simp only [stB, ih, hg, blkOut, blkBad, wantsG, hf, Option.isSome_none]
    rw [List.take_succ_eq_append_getElem (by omega), List.foldl_append]
    rfl
theorem doneR_wants {ws : List (List UInt8)} (h : ws ≠ []) : doneR ws false = some ⟨⟨#[]⟩, ws, 1201⟩ := by
  have : ¬ ws.length = 0 := fun e => h (List.length_eq_zero_iff.1 e)
  simp [doneR, this]

section
variable {kv : KV} {L : List UInt8}
theorem load_inner (hR : findL kv (rootH L) = some (buildR L)) (hJ : ∀ x ∈ buildJ L, findL kv x = none) (hne : buildJ L ≠ []) :
    loadR kv (rootH L) L.length = ⟨⟨#[]⟩, (buildJ L).foldl onceH [], 1201⟩ := by
  have e1 : partsN L.length 64 = (buildH L).length := by rw [partsN_cut (by decide), buildH, buildB, List.length_map, List.length_map]
  have e2 : partsN (buildH L).length 8 = (buildJ L).length := by rw [partsN_cut (by decide), buildJ, buildI, List.length_map, List.length_map]
  obtain ⟨n1, n2⟩ := isNode_nodeT 82 (buildJ L) (buildJ_len L)
  have hN : namedH kv (rootH L) 82 (buildJ L).length = buildJ L := by
    rw [namedH, hR]
    simp only [buildR, n1, if_true, n2]
  have hNB : namedB kv (rootH L) 82 (buildJ L).length false = false := by
    rw [namedB, hR]
    simp only [buildR, n1, if_true]
  have hW : wantsG kv [] (rootH L) = [] := by rw [wantsG, hR]; rfl
  have hd : doneR [] false = none := rfl
  have hS := stI_none hJ (buildH L).length [] false (buildJ L).length (Nat.le_refl _)
  rw [List.take_length] at hS
  unfold loadR
  simp only [e1, e2, hN, hNB, hW, hd, hS, doneR_wants (foldl_onceH_ne hne)]
theorem load_blocks (hI : ∀ s ∈ buildI L, findL kv (objH s) = some s) (hR : findL kv (rootH L) = some (buildR L)) (hH : ∀ x ∈ buildH L, findL kv x = none) (hne : buildH L ≠ []) :
    loadR kv (rootH L) L.length = ⟨⟨#[]⟩, (buildH L).foldl onceH [], 1201⟩ := by
  have e1 : partsN L.length 64 = (buildH L).length := by rw [partsN_cut (by decide), buildH, buildB, List.length_map, List.length_map]
  have e2 : partsN (buildH L).length 8 = (buildJ L).length := by rw [partsN_cut (by decide), buildJ, buildI, List.length_map, List.length_map]
  obtain ⟨n1, n2⟩ := isNode_nodeT 82 (buildJ L) (buildJ_len L)
  have hN : namedH kv (rootH L) 82 (buildJ L).length = buildJ L := by
    rw [namedH, hR]
    simp only [buildR, n1, if_true, n2]
  have hNB : namedB kv (rootH L) 82 (buildJ L).length false = false := by
    rw [namedB, hR]
    simp only [buildR, n1, if_true]
  have hW : wantsG kv [] (rootH L) = [] := by rw [wantsG, hR]; rfl
  have hd : doneR [] false = none := rfl
  have hS := stI_whole hI (buildJ L).length (Nat.le_refl _)
  have hl1 := cutL_low (k := 8) (by decide) (buildH L)
  have hJl : (buildJ L).length = (cutL 8 (buildH L)).length := by rw [buildJ, buildI, List.length_map, List.length_map]
  rw [List.take_of_length_le (by omega)] at hS
  have hS2 := stB_none hH L.length [] false (buildH L).length (Nat.le_refl _)
  rw [List.take_length] at hS2
  unfold loadR
  simp only [e1, e2, hN, hNB, hW, hd, hS, hS2, doneR_wants (foldl_onceH_ne hne)]
end

theorem bT_ok {c : List UInt8} (h : c.length ≤ 64) : objOk (bT c) = true := by
  rw [objOk_iff, decide_eq_true_eq, ba_list, bT]
  simp only [List.length_cons]
  omega
theorem buildB_ok {L : List UInt8} {s : ByteArray} (h : s ∈ buildB L) : s.size ≤ 258 := by
  obtain ⟨c, hc, rfl⟩ := List.mem_map.1 h
  have := ((cutL_len (k := 64) (by decide) L.length L (Nat.le_refl _)).1 c hc).1
  rw [ba_list, bT]
  simp only [List.length_cons]
  omega
theorem buildI_ok {L : List UInt8} {s : ByteArray} (h : s ∈ buildI L) : s.size ≤ 258 := by
  obtain ⟨c, hc, rfl⟩ := List.mem_map.1 h
  have h1 := ((cutL_len (k := 8) (by decide) (buildH L).length (buildH L) (Nat.le_refl _)).1 c hc).1
  rw [nodeT_size2 73 c (fun x hx => buildH_len L x (cutL_mem (by decide) _ _ (Nat.le_refl _) c hc x hx))]
  omega
theorem buildR_ok {L : List UInt8} (h : L.length ≤ 4096) : (buildR L).size ≤ 258 := by
  rw [buildR, nodeT_size2 82 _ (buildJ_len L)]
  have := buildJ_few L h
  omega
theorem buildO_ok {L : List UInt8} (h : L.length ≤ 4096) {s : ByteArray} (hs : s ∈ buildO L) : s.size ≤ 258 := by
  rcases (mem_buildO L s).1 hs with h1 | h1 | h1
  · exact buildB_ok h1
  · exact buildI_ok h1
  · rw [h1]; exact buildR_ok h
theorem ok258 {s : ByteArray} (h : s.size ≤ 258) : objOk s = true := by
  rw [objOk_iff, decide_eq_true_eq]; omega
theorem heads {L : List UInt8} {s : ByteArray} : (s ∈ buildB L → s ∉ buildI L ∧ s ≠ buildR L) ∧ (s ∈ buildI L → s ≠ buildR L) := by
  refine ⟨fun h => ⟨fun h2 => ?_, fun e => ?_⟩, fun h e => ?_⟩
  · obtain ⟨c, _, e⟩ := List.mem_map.1 h
    obtain ⟨d, _, e2⟩ := List.mem_map.1 h2
    have := congrArg (fun x : ByteArray => x.data.toList.head?) (e.trans e2.symm)
    have h : (some (66 : UInt8)) = some 73 := this
    cases h
  · obtain ⟨c, _, e1⟩ := List.mem_map.1 h
    have := congrArg (fun x : ByteArray => x.data.toList.head?) (e1.trans e)
    have h : (some (66 : UInt8)) = some 82 := this
    cases h
  · obtain ⟨c, _, e1⟩ := List.mem_map.1 h
    have := congrArg (fun x : ByteArray => x.data.toList.head?) (e1.trans e)
    have h : (some (73 : UInt8)) = some 82 := this
    cases h

/-- What is at hand before round i. -/
def fb (L : List UInt8) : Nat → List ByteArray
  | 0 => []
  | i + 1 => fb L i ++ (buildO L).filter (fun o => decide (objH o ∈ (loadR (readK (fb L i)) (rootH L) L.length).ws))
theorem fb_sub (L : List UInt8) : ∀ i, ∀ x ∈ fb L i, x ∈ buildO L
  | 0, x, h => by cases h
  | i + 1, x, h => by
    rcases List.mem_append.1 h with h | h
    · exact fb_sub L i x h
    · exact (List.mem_filter.1 h).1
theorem fb_len (L : List UInt8) : ∀ i, (fb L i).length ≤ i * (buildO L).length
  | 0 => by simp [fb]
  | i + 1 => by
    have h1 := fb_len L i
    have h2 := List.length_filter_le (fun o => decide (objH o ∈ (loadR (readK (fb L i)) (rootH L) L.length).ws)) (buildO L)
    rw [fb, List.length_append, Nat.add_mul]
    omega

section
variable {L : List UInt8} (hA : ApartL (buildO L)) (hL : L.length ≤ 4096)
include hA hL
theorem fb_get {i : Nat} {s : ByteArray} (hs : s ∈ fb L i) : findL (readK (fb L i)) (objH s) = some s :=
  readK_get (fun a ha b hb e => hA a (fb_sub L i a ha) b (fb_sub L i b hb) e) hs (ok258 (buildO_ok hL (fb_sub L i s hs)))
omit hL in
theorem fb_none {i : Nat} {s : ByteArray} (hs : s ∈ buildO L) (hn : s ∉ fb L i) : findL (readK (fb L i)) (objH s) = none :=
  readK_none fun t ht e => hn (by rw [← hA t (fb_sub L i t ht) s hs e]; exact ht)
theorem fb0 : loadR (readK (fb L 0)) (rootH L) L.length = ⟨⟨#[]⟩, [rootH L], 1201⟩ := load_none rfl _
theorem fb1 (x : ByteArray) : x ∈ fb L 1 ↔ x = buildR L := by
  have hR : buildR L ∈ buildO L := (mem_buildO L _).2 (.inr (.inr rfl))
  rw [fb, fb0 hA hL]
  simp only [fb, List.nil_append, List.mem_filter, List.mem_singleton, decide_eq_true_eq]
  exact ⟨fun h => hA x h.1 _ hR h.2, fun h => ⟨by rw [h]; exact hR, by rw [h]; rfl⟩⟩
theorem fb1_end (h : L = []) : loadR (readK (fb L 1)) (rootH L) L.length = ⟨⟨L.toArray⟩, [], 0⟩ := by
  refine load_whole (fun s hs => ?_) (fun s hs => ?_) ?_
  · subst h; cases hs
  · subst h; cases hs
  · exact fb_get hA hL ((fb1 hA hL _).2 rfl)
theorem fb1_more (h : L ≠ []) : loadR (readK (fb L 1)) (rootH L) L.length = ⟨⟨#[]⟩, (buildJ L).foldl onceH [], 1201⟩ := by
  refine load_inner (fb_get hA hL ((fb1 hA hL _).2 rfl)) (fun x hx => ?_) (fun e => ?_)
  · obtain ⟨s, hs, rfl⟩ := List.mem_map.1 hx
    exact fb_none hA ((mem_buildO L s).2 (.inr (.inl hs))) (fun h2 => heads.2 hs ((fb1 hA hL s).1 h2))
  · have h1 := congrArg List.length e
    rw [buildJ, buildI, List.length_map, List.length_map, List.length_nil] at h1
    have h2 := cutL_low (k := 8) (by decide) (buildH L)
    have h3 := cutL_low (k := 64) (by decide) L
    rw [buildH, buildB, List.length_map, List.length_map] at h2
    rw [buildH, buildB] at h1
    have : 0 < L.length := List.length_pos_iff.2 h
    omega
theorem fb2 (h : L ≠ []) (x : ByteArray) : x ∈ fb L 2 ↔ x = buildR L ∨ x ∈ buildI L := by
  rw [fb, fb1_more hA hL h, List.mem_append, fb1 hA hL]
  simp only [List.mem_filter, decide_eq_true_eq, mem_foldl_onceH, List.not_mem_nil, false_or]
  refine or_congr_right ⟨fun h => ?_, fun h => ⟨(mem_buildO L x).2 (.inr (.inl h)), List.mem_map_of_mem h⟩⟩
  obtain ⟨s, hs, e⟩ := List.mem_map.1 h.2
  rw [hA x h.1 s ((mem_buildO L s).2 (.inr (.inl hs))) e.symm]
  exact hs
theorem fb2_more (h : L ≠ []) : loadR (readK (fb L 2)) (rootH L) L.length = ⟨⟨#[]⟩, (buildH L).foldl onceH [], 1201⟩ := by
  refine load_blocks (fun s hs => fb_get hA hL ((fb2 hA hL h s).2 (.inr hs))) (fb_get hA hL ((fb2 hA hL h _).2 (.inl rfl))) (fun x hx => ?_) (fun e => ?_)
  · obtain ⟨s, hs, rfl⟩ := List.mem_map.1 hx
    refine fb_none hA ((mem_buildO L s).2 (.inl hs)) (fun h2 => ?_)
    rcases (fb2 hA hL h s).1 h2 with h3 | h3
    · exact (heads.1 hs).2 h3
    · exact (heads.1 hs).1 h3
  · have h1 := congrArg List.length e
    rw [buildH, buildB, List.length_map, List.length_map, List.length_nil] at h1
    have h3 := cutL_low (k := 64) (by decide) L
    have : 0 < L.length := List.length_pos_iff.2 h
    omega
theorem fb3 (h : L ≠ []) (x : ByteArray) : x ∈ fb L 3 ↔ x ∈ buildO L := by
  rw [fb, fb2_more hA hL h, List.mem_append, fb2 hA hL h, mem_buildO]
  simp only [List.mem_filter, decide_eq_true_eq, mem_foldl_onceH, List.not_mem_nil, false_or]
  constructor
  · rintro ((h | h) | ⟨h, _⟩)
    · exact .inr (.inr h)
    · exact .inr (.inl h)
    · exact (mem_buildO L x).1 h
  · rintro (h | h | h)
    · exact .inr ⟨(mem_buildO L x).2 (.inl h), List.mem_map_of_mem h⟩
    · exact .inl (.inr h)
    · exact .inl (.inl h)
theorem fb3_end (h : L ≠ []) : loadR (readK (fb L 3)) (rootH L) L.length = ⟨⟨L.toArray⟩, [], 0⟩ :=
  load_whole (fun s hs => fb_get hA hL ((fb3 hA hL h s).2 ((mem_buildO L s).2 (.inl hs)))) (fun s hs => fb_get hA hL ((fb3 hA hL h s).2 ((mem_buildO L s).2 (.inr (.inl hs)))))
    (fb_get hA hL ((fb3 hA hL h _).2 ((mem_buildO L _).2 (.inr (.inr rfl)))))
/-- A ROUND. -/
theorem fb_round (i : Nat) (hi : i ≤ 3) (hr : L = [] → i ≤ 1) {R : LR} (eR : R = loadR (readK (fb L i)) (rootH L) L.length) :
    (R.er = 0 ∧ R.out = ⟨L.toArray⟩ ∧ R.ws = [] ∧ ((i = 3 ∧ L ≠ []) ∨ (L = [] ∧ i = 1))) ∨ (R.er = 1201 ∧ R.out = ⟨#[]⟩ ∧ R.ws ≠ [] ∧ R.ws.Nodup ∧ (∀ x ∈ R.ws, x.length = 32) ∧ i < 3 ∧ (L = [] → i = 0)) := by
  have hJl : ∀ x ∈ (buildJ L).foldl onceH [], x.length = 32 := fun x hx => buildJ_len L x (((mem_foldl_onceH _ _).1 hx).elim (fun h => by cases h) id)
  have hHl : ∀ x ∈ (buildH L).foldl onceH [], x.length = 32 := fun x hx => buildH_len L x (((mem_foldl_onceH _ _).1 hx).elim (fun h => by cases h) id)
  by_cases h : L = []
  · have := hr h
    rcases (show i = 0 ∨ i = 1 by omega) with rfl | rfl
    · rw [fb0 hA hL] at eR
      subst eR
      exact .inr ⟨rfl, rfl, by simp, by simp, fun x hx => by rw [List.mem_singleton.1 hx]; exact objH_length _, by omega, fun _ => rfl⟩
    · rw [fb1_end hA hL h] at eR
      subst eR
      exact .inl ⟨rfl, rfl, rfl, .inr ⟨h, rfl⟩⟩
  · have hJne : (buildJ L).foldl onceH [] ≠ [] := by
      refine foldl_onceH_ne fun e => ?_
      have h1 := congrArg List.length e
      rw [buildJ, buildI, List.length_map, List.length_map, List.length_nil] at h1
      have h2 := cutL_low (k := 8) (by decide) (buildH L)
      have h3 := cutL_low (k := 64) (by decide) L
      rw [buildH, buildB, List.length_map, List.length_map] at h2
      rw [buildH, buildB] at h1
      have : 0 < L.length := List.length_pos_iff.2 h
      omega
    have hHne : (buildH L).foldl onceH [] ≠ [] := by
      refine foldl_onceH_ne fun e => ?_
      have h1 := congrArg List.length e
      rw [buildH, buildB, List.length_map, List.length_map, List.length_nil] at h1
      have h3 := cutL_low (k := 64) (by decide) L
      have : 0 < L.length := List.length_pos_iff.2 h
      omega
    rcases (show i = 0 ∨ i = 1 ∨ i = 2 ∨ i = 3 by omega) with rfl | rfl | rfl | rfl
    · rw [fb0 hA hL] at eR
      subst eR
      exact .inr ⟨rfl, rfl, by simp, by simp, fun x hx => by rw [List.mem_singleton.1 hx]; exact objH_length _, by omega, fun _ => rfl⟩
    · rw [fb1_more hA hL h] at eR
      subst eR
      exact .inr ⟨rfl, rfl, hJne, foldl_onceH_nodup _ _ List.nodup_nil, hJl, by omega, fun e => absurd e h⟩
    · rw [fb2_more hA hL h] at eR
      subst eR
      exact .inr ⟨rfl, rfl, hHne, foldl_onceH_nodup _ _ List.nodup_nil, hHl, by omega, fun e => absurd e h⟩
    · rw [fb3_end hA hL h] at eR
      subst eR
      exact .inl ⟨rfl, rfl, rfl, .inl ⟨rfl, h⟩⟩
end
end Go.Proofs.Ytmhbkilpllgchaa
