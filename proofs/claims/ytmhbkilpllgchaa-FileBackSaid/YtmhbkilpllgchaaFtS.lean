/- SameHashs, awake of law 12. -/
import Derived.Test.YtmhbkilpllgchaaFtR
namespace Go.Proofs.Ytmhbkilpllgchaa
open Go.RowKit BigFrame
set_option linter.unusedVariables false
set_option linter.unusedSimpArgs false

set_option maxRecDepth 100000 in
set_option maxHeartbeats 8000000 in
theorem samehashs_same {w : World} {p1 p2 : Option Addr} {hs : List (List UInt8)} (c1 c2 : Nat) (h1 : HashAt w p1 hs) (h2 : HashAt w p2 hs) (hl : ∀ L ∈ hs, L.length = 32) (hn : hs.length ≤ 1000000) :
    Calls Try.prog 89 #[.slice p1 hs.length c1, .slice p2 hs.length c2] w fun e w' => e = .returned (.bool true) ∧ Below w.heap.size w w' := by
  obtain ⟨n, en⟩ : ∃ n, n = hs.length := ⟨_, rfl⟩
  have HX := Lib.hid (And.intro h1 (And.intro h2 (And.intro hl en)))
  rw [← en] at hn ⊢
  clear h1 h2 hl en
  go_enter Try.func89, Try.ntmps89
  go_wp2
  go_loopw [5] (fun i wr => ∃ (j : Nat), i = .int .i64 (j : Int) ∧ j ≤ n ∧ Below w.heap.size w wr) (fun i _ => n - (intOf i).toNat)
  case atStart => exact ⟨0, rfl, by omega, Below.refl _ _⟩
  case round =>
    obtain ⟨j, rfl, hj, hb⟩ := hrel
    by_cases g1 : j < n
    · have hjl : j < hs.length := by rw [← HX.out.2.2.2]; exact g1
      obtain ⟨b, o, rfl, hbl, hr⟩ := HX.out.1.at HX.out.2.2.1 hjl
      obtain ⟨b2, o2, rfl, hbl2, hr2⟩ := HX.out.2.1.at HX.out.2.2.1 hjl
      obtain ⟨L, eL⟩ : ∃ L, L = hs[j] := ⟨_, rfl⟩
      have hLl : L.length = 32 := by rw [eL]; exact HX.out.2.2.1 _ (List.getElem_mem hjl)
      rw [← eL] at hr hr2
      have hneq : ∀ w', (binOp .neq 29 (.agg (bcells L)) (.agg (bcells L))).run Try.prog w' = .ok (.bool false) w' := fun w' => by rw [neq_bytes w' L L hLl hLl]; simp
      have k1 : ∀ x, (later wr x).rangeAt b (o + j * 32) (bcells L).toList := fun x i v hv => ((hb.trans ((later_below wr x).mono hb.size)).cell (p := ⟨b, _, none⟩) hbl).trans (hr i v hv)
      have k2 : ∀ x, (later wr x).rangeAt b2 (o2 + j * 32) (bcells L).toList := fun x i v hv => ((hb.trans ((later_below wr x).mono hb.size)).cell (p := ⟨b2, _, none⟩) hbl2).trans (hr2 i v hv)
      have HK := Lib.hid (And.intro k1 (And.intro k2 (And.intro hLl hb)))
      clear k1 k2 hLl hb hr hr2 eL hbl hbl2
      go_upto_region 6 with fail
      refine wp_region_later (by kernel_rfl) (by kernel_rfl) ?_
      repeat (first
        | (refine wpQuiet_ld_g (d := 20) b (o + j * 32) (bcells L).toList rfl rfl (by rintro _ ⟨x, rfl⟩; exact HK.out.1 x) Try.underlying29 rfl (by rw [size29, Array.length_toList, bcells_size, HK.out.2.2.1]) ?_; simp only [List.setIfInBounds_toArray, List.set_cons_succ, List.set_cons_zero, Array.toArray_toList])
        | (refine wpQuiet_ld_g (d := 24) b2 (o2 + j * 32) (bcells L).toList rfl rfl (by rintro _ ⟨x, rfl⟩; exact HK.out.2.1 x) Try.underlying29 rfl (by rw [size29, Array.length_toList, bcells_size, HK.out.2.2.1]) ?_; simp only [List.setIfInBounds_toArray, List.set_cons_succ, List.set_cons_zero, Array.toArray_toList])
        | (go_big_quiet_step (fail)))
      refine wpQuiet_nil ?_
      rintro _ ⟨x, rfl⟩
      have HB := Lib.hid (HK.out.2.2.2.trans ((later_below wr x).mono HK.out.2.2.2.size))
      go_wp2
      exact ⟨⟨j + 1, by go_num, by omega, HB.out⟩, by simp [intOf]; omega⟩
    · obtain rfl : j = n := by omega
      go_wp2
      go_ret
      exact ⟨rfl, hb⟩

theorem mem_onceA {all : List ByteArray} {s x : ByteArray} : x ∈ onceA all s ↔ x ∈ all ∨ x = s := by
  unfold onceA
  split
  · rename_i h
    exact ⟨.inl, fun h2 => h2.elim id (fun e => e ▸ h)⟩
  · simp
theorem mem_foldl_onceA {x : ByteArray} : ∀ (ss all : List ByteArray), x ∈ ss.foldl onceA all ↔ x ∈ all ∨ x ∈ ss
  | [], all => by simp
  | s :: ss, all => by
    rw [List.foldl_cons, mem_foldl_onceA ss, mem_onceA, List.mem_cons]
    exact or_assoc
theorem mem_buildO (L : List UInt8) (x : ByteArray) : x ∈ buildO L ↔ x ∈ buildB L ∨ x ∈ buildI L ∨ x = buildR L := by
  unfold buildO
  rw [mem_onceA, mem_foldl_onceA, mem_foldl_onceA]
  simp only [List.not_mem_nil, false_or]
  exact or_assoc

def abB : ByteArray := bT [97, 98]
def abI : ByteArray := nodeT 73 [objH abB]
def abR : ByteArray := nodeT 82 [objH abI]
set_option maxRecDepth 100000 in
theorem ab_hash : objH abB ≠ objH abI ∧ objH abB ≠ objH abR ∧ objH abI ≠ objH abR := by decide +kernel
theorem ab_B : buildB [97, 98] = [abB] := rfl
theorem ab_H : buildH [97, 98] = [objH abB] := rfl
theorem ab_I : buildI [97, 98] = [abI] := by rw [buildI, ab_H]; rfl
theorem ab_J : buildJ [97, 98] = [objH abI] := by rw [buildJ, ab_I]; rfl
theorem ab_R : buildR [97, 98] = abR := by rw [buildR, ab_J]; rfl
theorem ab_1 : abB.size = 3 := rfl
theorem ab_2 : abI.size = 34 := by rw [abI, nodeT_size2 _ _ (by simp [objH_length])]; rfl
theorem ab_3 : abR.size = 34 := by rw [abR, nodeT_size2 _ _ (by simp [objH_length])]; rfl
theorem ab_ne1 : abI ≠ abB := fun e => by have := congrArg ByteArray.size e; rw [ab_1, ab_2] at this; cases this
theorem ab_ne2 : abR ≠ abB := fun e => by have := congrArg ByteArray.size e; rw [ab_1, ab_3] at this; cases this
theorem ab_ne3 : abR ≠ abI := fun e => by
  have := congrArg (fun x : ByteArray => x.data.toList.head?) e
  have h : (some (82 : UInt8)) = some 73 := this
  cases h
theorem ab_O : buildO [97, 98] = [abB, abI, abR] := by
  rw [buildO, ab_B, ab_I, ab_R]
  simp [onceA, ab_ne1, ab_ne2, ab_ne3]
theorem apartL3 {a b c : ByteArray} (h1 : objH a ≠ objH b) (h2 : objH a ≠ objH c) (h3 : objH b ≠ objH c) : ApartL [a, b, c] := by
  intro s hs t ht e
  simp only [List.mem_cons, List.not_mem_nil, or_false] at hs ht
  rcases hs with rfl | rfl | rfl <;> rcases ht with rfl | rfl | rfl
  · rfl
  · exact absurd e h1
  · exact absurd e h2
  · exact absurd e.symm h1
  · rfl
  · exact absurd e h3
  · exact absurd e.symm h2
  · exact absurd e.symm h3
  · rfl
theorem ab_apart : ApartL [abB, abI, abR] := apartL3 ab_hash.1 ab_hash.2.1 ab_hash.2.2
theorem ab_ok (s : ByteArray) (h : s ∈ [abB, abI, abR]) : objOk s = true := by
  rw [objOk_iff]
  simp only [List.mem_cons, List.not_mem_nil, or_false] at h
  rcases h with rfl | rfl | rfl
  · rw [ab_1]; rfl
  · rw [ab_2]; rfl
  · rw [ab_3]; rfl
theorem ab_get (s : ByteArray) (h : s ∈ [abB, abI, abR]) : findL (readK [abB, abI, abR]) (objH s) = some s := readK_get ab_apart h (ab_ok s h)
theorem ab_load2 : loadZ (readK [abB, abI, abR]) (rootH [97, 98]) 2 = ⟨⟨#[97, 98]⟩, [], 0⟩ := by
  have h := load_whole (kv := readK [abB, abI, abR]) (L := [97, 98]) (fun s hs => ab_get s (by rw [ab_B] at hs; simp at hs; simp [hs])) (fun s hs => ab_get s (by rw [ab_I] at hs; simp at hs; simp [hs]))
    (by rw [rootH, ab_R]; exact ab_get abR (by simp))
  rw [loadZ, if_neg (by decide)]
  exact h
theorem ab_load0 : loadZ (readK []) (rootH [97, 98]) 2 = ⟨⟨#[]⟩, [rootH [97, 98]], 1201⟩ := by
  rw [loadZ, if_neg (by decide)]
  exact load_none rfl _
theorem ab_load3 : loadZ (readK [abB, abI, abR]) (rootH [97, 98]) 3 = ⟨⟨#[]⟩, [], 1200⟩ := by
  obtain ⟨kv, ek⟩ : ∃ kv, kv = readK [abB, abI, abR] := ⟨_, rfl⟩
  have hR : findL kv (rootH [97, 98]) = some abR := by rw [ek, rootH, ab_R]; exact ab_get abR (by simp)
  have hI : findL kv (objH abI) = some abI := by rw [ek]; exact ab_get abI (by simp)
  have hB : findL kv (objH abB) = some abB := by rw [ek]; exact ab_get abB (by simp)
  rw [loadZ, if_neg (by decide), ← ek]
  obtain ⟨n1, n2⟩ := isNode_nodeT 82 [objH abI] (by simp [objH_length])
  obtain ⟨n3, n4⟩ := isNode_nodeT 73 [objH abB] (by simp [objH_length])
  replace n1 : isNode abR 82 1 := n1
  replace n2 : chunksH abR = [objH abI] := n2
  replace n3 : isNode abI 73 1 := n3
  replace n4 : chunksH abI = [objH abB] := n4
  have nb : ¬ isBlock abB 3 := fun h => by have := h.1; rw [ab_1] at this; cases this
  have p1 : partsN 3 64 = 1 := rfl
  have p2 : partsN 1 8 = 1 := rfl
  have hN : namedH kv (rootH [97, 98]) 82 1 = [objH abI] := by rw [namedH, hR]; simp only; rw [if_pos n1, n2]
  have hNB : namedB kv (rootH [97, 98]) 82 1 false = false := by rw [namedB, hR]; simp only; rw [if_pos n1]
  have hW : wantsG kv [] (rootH [97, 98]) = [] := by rw [wantsG, hR]; rfl
  have hd : doneR [] false = none := rfl
  have hS : stI kv 1 [objH abI] [] false 1 = ([objH abB], [], false) := by
    have e : ([objH abI] : List (List UInt8)).getD 0 [] = objH abI := rfl
    have e2 : min 8 (1 - 8 * 0) = 1 := rfl
    rw [stI, stI]
    simp only [e, e2, namedH, namedB, wantsG, hI]
    rw [if_pos n3, if_pos n3, n4]
    rfl
  have hS2 : stB kv 3 [objH abB] [] false 1 = ([], [], true) := by
    have e : ([objH abB] : List (List UInt8)).getD 0 [] = objH abB := rfl
    have e2 : min 64 (3 - 64 * 0) = 3 := rfl
    rw [stB, stB]
    simp only [e, e2, blkOut, blkBad, wantsG, hB]
    rw [if_neg nb, if_neg nb]
    rfl
  unfold loadR
  simp only [show (3 : Int).toNat = 3 from rfl, p1, p2, hN, hNB, hW, hd, List.length_singleton, hS, hS2]
  rfl
end Go.Proofs.Ytmhbkilpllgchaa
