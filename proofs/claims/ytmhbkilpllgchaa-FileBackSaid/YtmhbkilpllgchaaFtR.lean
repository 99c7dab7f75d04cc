/- Loads in plain Lean: what a table of objects holds; a file's objects give the file back. -/
import Derived.Test.YtmhbkilpllgchaaFtQ
namespace Go.Proofs.Ytmhbkilpllgchaa
open Go.RowKit
set_option linter.unusedVariables false

theorem findL_app (kv : KV) (L : List UInt8) (s : ByteArray) (K : List UInt8) : findL (kv ++ [(L, s)]) K = (findL kv K).or (if L = K then some s else none) := by
  unfold findL
  rw [List.find?_append]
  cases h : kv.find? (fun p => decide (p.1 = K)) with
  | some p => rfl
  | none =>
    by_cases g : L = K
    · simp [g]
    · simp [g]
theorem findL_tab (kv : KV) (L : List UInt8) (s : ByteArray) (K : List UInt8) : findL (tabK kv L s) K = (findL kv K).or (if L = K then some s else none) := by
  unfold tabK
  split
  · rename_i h
    by_cases g : L = K
    · subst g
      cases hq : findL kv L with
      | none => rw [hq] at h; cases h
      | some t => rfl
    · rw [if_neg g]; cases findL kv K <;> rfl
  · exact findL_app kv L s K
theorem readK_find (ss : List ByteArray) (K : List UInt8) : findL (readK ss) K = ss.find? (fun s => objOk s && decide (objH s = K)) := by
  have : ∀ (ss : List ByteArray) (kv : KV), findL (ss.foldl (fun kv s => if objOk s then tabK kv (objH s) s else kv) kv) K = (findL kv K).or (ss.find? (fun s => objOk s && decide (objH s = K))) := by
    intro ss
    induction ss with
    | nil => intro kv; simp
    | cons s ss ih =>
      intro kv
      rw [List.foldl_cons, ih, List.find?_cons]
      by_cases g : objOk s
      · rw [if_pos g, findL_tab]
        by_cases h : objH s = K
        · rw [if_pos h]; cases findL kv K <;> simp [g, h]
        · rw [if_neg h]; cases findL kv K <;> simp [g, h]
      · rw [if_neg g]
        simp [g]
  have h := this ss []
  rw [findL_nil] at h
  exact h
/-- No two unlike ones of one hash. -/
def ApartL (ss : List ByteArray) : Prop := ∀ s ∈ ss, ∀ t ∈ ss, objH s = objH t → s = t
theorem apartL_of {ss : List ByteArray} (h : Apart ss ss.length) : ApartL ss := by
  intro s hs t ht e
  obtain ⟨i, hi, rfl⟩ := List.getElem_of_mem hs
  obtain ⟨j, hj, rfl⟩ := List.getElem_of_mem ht
  have gi : ss.getD i ByteArray.empty = ss[i] := by rw [List.getD, List.getElem?_eq_getElem hi]; rfl
  have gj : ss.getD j ByteArray.empty = ss[j] := by rw [List.getD, List.getElem?_eq_getElem hj]; rfl
  rcases Nat.lt_trichotomy i j with g | g | g
  · have := h j hj i g
    rw [gi, gj] at this
    exact (this e.symm).symm
  · subst g; rfl
  · have := h i hi j g
    rw [gi, gj] at this
    exact this e
theorem readK_get {ss : List ByteArray} (h : ApartL ss) {s : ByteArray} (hs : s ∈ ss) (hk : objOk s = true) : findL (readK ss) (objH s) = some s := by
  rw [readK_find]
  cases hf : ss.find? (fun t => objOk t && decide (objH t = objH s)) with
  | none =>
    have := List.find?_eq_none.1 hf s hs
    simp [hk] at this
  | some t =>
    have h1 := List.mem_of_find?_eq_some hf
    have h2 := List.find?_some hf
    simp only [Bool.and_eq_true, decide_eq_true_eq] at h2
    rw [h t h1 s hs h2.2]
theorem readK_none {ss : List ByteArray} {K : List UInt8} (h : ∀ s ∈ ss, objH s ≠ K) : findL (readK ss) K = none := by
  rw [readK_find, List.find?_eq_none]
  intro s hs
  simp [h s hs]
theorem readK_some {ss : List ByteArray} {K : List UInt8} {t : ByteArray} (h : findL (readK ss) K = some t) : t ∈ ss ∧ objOk t = true ∧ objH t = K := by
  rw [readK_find] at h
  have h2 := List.find?_some h
  simp only [Bool.and_eq_true, decide_eq_true_eq] at h2
  exact ⟨List.mem_of_find?_eq_some h, h2.1, h2.2⟩

theorem cutL_low {α : Type} {k : Nat} (hk : 0 < k) (l : List α) : l.length ≤ k * (cutL k l).length := by
  rcases Nat.lt_or_ge (k * (cutL k l).length) l.length with h | h
  · have := (cutL_get hk (cutL k l).length l).1 h
    rw [List.getElem?_eq_none (Nat.le_refl _)] at this
    cases this
  · exact h
theorem partsN_cut {α : Type} {k : Nat} (hk : 0 < k) (l : List α) : partsN l.length k = (cutL k l).length := by
  have h1 := cutL_low hk l
  have h2 := (cutL_len hk l.length l (Nat.le_refl _)).2.2
  unfold partsN
  rw [Nat.mul_comm] at h1
  refine Nat.div_eq_of_lt_le (by omega) ?_
  rw [Nat.add_mul]
  omega
theorem cutL_at {α : Type} {k : Nat} (hk : 0 < k) (l : List α) {j : Nat} (hj : j < (cutL k l).length) : k * j < l.length ∧ (cutL k l)[j] = (l.drop (k * j)).take k := by
  have h1 : k * j < l.length := by
    rcases Nat.lt_or_ge (k * j) l.length with h | h
    · exact h
    · have := (cutL_get hk j l).2 h
      omega
  refine ⟨h1, ?_⟩
  have := (cutL_get hk j l).1 h1
  rw [List.getElem?_eq_getElem hj] at this
  exact Option.some.inj this
theorem cutL_flat : ∀ hs : List (List UInt8), (∀ x ∈ hs, x.length = 32) → cutL 32 hs.flatten = hs
  | [], _ => rfl
  | x :: hs, h => by
    have hx := h x (by simp)
    have hne : (x :: hs).flatten ≠ [] := fun e => by
      have := congrArg List.length e
      rw [List.flatten_cons, List.length_append, hx] at this
      simp at this
    rw [cutL_cons (by decide) _ hne, List.flatten_cons]
    congr 1
    · rw [← hx]; simp
    · have : (x ++ hs.flatten).drop 32 = hs.flatten := by rw [← hx]; simp
      rw [this]
      exact cutL_flat hs (fun y hy => h y (List.mem_cons_of_mem _ hy))
theorem flatten32 : ∀ hs : List (List UInt8), (∀ x ∈ hs, x.length = 32) → hs.flatten.length = hs.length * 32
  | [], _ => rfl
  | x :: hs, h => by
    rw [List.flatten_cons, List.length_append, h x (by simp), flatten32 hs (fun y hy => h y (List.mem_cons_of_mem _ hy)), List.length_cons]
    omega
theorem nodeT_size2 (kd : UInt8) (hs : List (List UInt8)) (hl : ∀ x ∈ hs, x.length = 32) : (nodeT kd hs).size = 2 + hs.length * 32 := by
  show ((kd :: UInt8.ofNat hs.length :: hs.flatten).toArray).size = _
  rw [List.size_toArray, List.length_cons, List.length_cons, flatten32 hs hl]
  omega
theorem isNode_nodeT (kd : UInt8) (hs : List (List UInt8)) (hl : ∀ x ∈ hs, x.length = 32) : isNode (nodeT kd hs) kd hs.length ∧ chunksH (nodeT kd hs) = hs :=
  ⟨⟨nodeT_size2 kd hs hl, rfl⟩, cutL_flat hs hl⟩
theorem isBlock_bT (c : List UInt8) : isBlock (bT c) c.length ∧ (bT c).data.toList.drop 1 = c := by
  refine ⟨⟨?_, rfl⟩, rfl⟩
  show ((66 :: c).toArray).size = _
  rw [List.size_toArray, List.length_cons]
  omega

section
variable {kv : KV} {L : List UInt8}
theorem stI_whole (hI : ∀ s ∈ buildI L, findL kv (objH s) = some s) : ∀ j, j ≤ (buildJ L).length → stI kv (buildH L).length (buildJ L) [] false j = ((buildH L).take (8 * j), [], false)
  | 0, _ => by rw [stI, Nat.mul_zero, List.take_zero]
  | j + 1, h => by
    have hJl : (buildJ L).length = (cutL 8 (buildH L)).length := by rw [buildJ, buildI, List.length_map, List.length_map]
    have hj : j < (cutL 8 (buildH L)).length := by omega
    obtain ⟨h1, h2⟩ := cutL_at (by decide) (buildH L) hj
    have ih := stI_whole hI j (by omega)
    obtain ⟨C, eC⟩ : ∃ C, C = (cutL 8 (buildH L))[j] := ⟨_, rfl⟩
    have hmem : nodeT 73 C ∈ buildI L := by rw [buildI, eC]; exact List.mem_map_of_mem (List.getElem_mem hj)
    have hgd : (buildJ L).getD j [] = objH (nodeT 73 C) := by
      rw [List.getD, List.getElem?_eq_getElem (by omega), Option.getD_some]
      simp only [buildJ, buildI, List.getElem_map, eC]
    have hCl : ∀ x ∈ C, x.length = 32 := fun x hx => by rw [eC, h2] at hx; exact buildH_len L x (List.mem_of_mem_drop (List.mem_of_mem_take hx))
    have hCn : C.length = min 8 ((buildH L).length - 8 * j) := by rw [eC, h2, List.length_take, List.length_drop]
    have hf := hI _ hmem
    obtain ⟨n1, n2⟩ := isNode_nodeT 73 C hCl
    rw [hCn] at n1
    simp only [stI, ih, hgd, namedH, namedB, wantsG, hf, n1, if_true, n2, Option.isSome_some]
    rw [eC, h2, Nat.mul_add, Nat.mul_one, List.take_add]
theorem stB_whole (hB : ∀ s ∈ buildB L, findL kv (objH s) = some s) : ∀ j, j ≤ (buildH L).length → stB kv L.length (buildH L) [] false j = (L.take (64 * j), [], false)
  | 0, _ => by rw [stB, Nat.mul_zero, List.take_zero]
  | j + 1, h => by
    have hHl : (buildH L).length = (cutL 64 L).length := by rw [buildH, buildB, List.length_map, List.length_map]
    have hj : j < (cutL 64 L).length := by omega
    obtain ⟨h1, h2⟩ := cutL_at (by decide) L hj
    have ih := stB_whole hB j (by omega)
    obtain ⟨C, eC⟩ : ∃ C, C = (cutL 64 L)[j] := ⟨_, rfl⟩
    have hmem : bT C ∈ buildB L := by rw [buildB, eC]; exact List.mem_map_of_mem (List.getElem_mem hj)
    have hgd : (buildH L).getD j [] = objH (bT C) := by
      rw [List.getD, List.getElem?_eq_getElem (by omega), Option.getD_some]
      simp only [buildH, buildB, List.getElem_map, eC]
    have hCn : C.length = min 64 (L.length - 64 * j) := by rw [eC, h2, List.length_take, List.length_drop]
    have hf := hB _ hmem
    obtain ⟨n1, n2⟩ := isBlock_bT C
    rw [hCn] at n1
    simp only [stB, ih, hgd, blkOut, blkBad, wantsG, hf, n1, if_true, n2, Option.isSome_some]
    rw [eC, h2, Nat.mul_add, Nat.mul_one, List.take_add]
theorem load_whole (hB : ∀ s ∈ buildB L, findL kv (objH s) = some s) (hI : ∀ s ∈ buildI L, findL kv (objH s) = some s) (hR : findL kv (rootH L) = some (buildR L)) :
    loadR kv (rootH L) L.length = ⟨⟨L.toArray⟩, [], 0⟩ := by
  have e1 : partsN L.length 64 = (buildH L).length := by rw [partsN_cut (by decide), buildH, buildB, List.length_map, List.length_map]
  have e2 : partsN (buildH L).length 8 = (buildJ L).length := by rw [partsN_cut (by decide), buildJ, buildI, List.length_map, List.length_map]
  obtain ⟨n1, n2⟩ := isNode_nodeT 82 (buildJ L) (buildJ_len L)
  have hN : namedH kv (rootH L) 82 (buildJ L).length = buildJ L := by
    rw [namedH, hR]
    simp only [buildR, n1, if_true, n2]
  have hNB : namedB kv (rootH L) 82 (buildJ L).length false = false := by
    rw [namedB, hR]
    simp only [buildR, n1, if_true]
  have hW : wantsG kv [] (rootH L) = [] := by rw [wantsG, hR]; rfl
  have hd : doneR [] false = none := rfl
  have hS := stI_whole hI (buildJ L).length (Nat.le_refl _)
  have hl1 := cutL_low (k := 8) (by decide) (buildH L)
  have hJl : (buildJ L).length = (cutL 8 (buildH L)).length := by rw [buildJ, buildI, List.length_map, List.length_map]
  rw [List.take_of_length_le (by omega)] at hS
  have hS2 := stB_whole hB (buildH L).length (Nat.le_refl _)
  have hl2 := cutL_low (k := 64) (by decide) L
  have hHl : (buildH L).length = (cutL 64 L).length := by rw [buildH, buildB, List.length_map, List.length_map]
  rw [List.take_of_length_le (by omega)] at hS2
  unfold loadR
  simp only [e1, e2, hN, hNB, hW, hd, hS, hS2]
/-- With nothing at hand. -/
theorem load_none (hR : findL kv (rootH L) = none) (size : Nat) : loadR kv (rootH L) size = ⟨⟨#[]⟩, [rootH L], 1201⟩ := by
  have hW : wantsG kv [] (rootH L) = [rootH L] := by rw [wantsG, hR]; rfl
  unfold loadR
  simp only [hW, namedB, hR, doneR]
  rfl
end
end Go.Proofs.Ytmhbkilpllgchaa
