/- FileObjects in plain Lean: a file of unlike blocks has just its blocks, its rows and its root. -/
import Derived.Test.YtmhbkilpllgchaaFtS
namespace Go.Proofs.Ytmhbkilpllgchaa
open Go.RowKit
set_option linter.unusedVariables false

theorem foldl_onceA_nodup : ∀ (ss all : List ByteArray), (all ++ ss).Nodup → ss.foldl onceA all = all ++ ss
  | [], all, _ => by simp
  | s :: ss, all, h => by
    have hs : s ∉ all := fun hm => by
      have := (List.nodup_append.1 h).2.2 s hm s (by simp)
      exact this rfl
    rw [List.foldl_cons, onceA, if_neg hs, foldl_onceA_nodup ss (all ++ [s]) (by rw [List.append_assoc]; exact h), List.append_assoc]
    rfl
theorem head_bT (c : List UInt8) : (bT c).data.toList.head? = some 66 := rfl
theorem head_nodeT (k : UInt8) (hs : List (List UInt8)) : (nodeT k hs).data.toList.head? = some k := rfl
theorem head_B {L : List UInt8} {x : ByteArray} (h : x ∈ buildB L) : x.data.toList.head? = some 66 := by
  obtain ⟨c, _, rfl⟩ := List.mem_map.1 h
  rfl
theorem head_I {L : List UInt8} {x : ByteArray} (h : x ∈ buildI L) : x.data.toList.head? = some 73 := by
  obtain ⟨c, _, rfl⟩ := List.mem_map.1 h
  rfl
theorem buildO_nodup (L : List UInt8) (hB : (buildB L).Nodup) (hI : (buildI L).Nodup) : (buildB L ++ buildI L ++ [buildR L]).Nodup := by
  rw [List.nodup_append]
  refine ⟨?_, by simp, ?_⟩
  · rw [List.nodup_append]
    refine ⟨hB, hI, fun a ha b hb e => ?_⟩
    have h1 := head_B ha
    rw [e, head_I hb] at h1
    cases h1
  · intro a ha b hb e
    rw [List.mem_singleton] at hb
    subst hb
    subst e
    have h0 : (buildR L).data.toList.head? = some 82 := rfl
    rcases List.mem_append.1 ha with h | h
    · have h1 := head_B h
      rw [h0] at h1; cases h1
    · have h1 := head_I h
      rw [h0] at h1; cases h1
theorem buildO_all (L : List UInt8) (hB : (buildB L).Nodup) (hI : (buildI L).Nodup) : buildO L = buildB L ++ buildI L ++ [buildR L] := by
  have h := buildO_nodup L hB hI
  have h1 := (List.nodup_append.1 h).1
  rw [buildO, foldl_onceA_nodup (buildB L) [] (by simpa using hB), List.nil_append, foldl_onceA_nodup _ _ h1, onceA, if_neg]
  intro hm
  exact (List.nodup_append.1 h).2.2 _ hm _ (by simp) rfl
theorem buildH_nodup {L : List UInt8} (hB : (buildB L).Nodup) (hA : ApartL (buildB L)) : (buildH L).Nodup := by
  rw [buildH, List.Nodup, List.pairwise_map]
  exact List.Pairwise.imp_of_mem (fun {a b} ha hb h e => h (hA a ha b hb e)) hB
theorem nodeT_inj {k : UInt8} {xs ys : List (List UInt8)} (hx : ∀ x ∈ xs, x.length = 32) (hy : ∀ x ∈ ys, x.length = 32) (e : nodeT k xs = nodeT k ys) : xs = ys := by
  have h1 := (isNode_nodeT k xs hx).2
  rw [e, (isNode_nodeT k ys hy).2] at h1
  exact h1.symm
theorem cutL_sub {L : List UInt8} {c : List (List UInt8)} (h : c ∈ cutL 8 (buildH L)) : ∀ x ∈ c, x.length = 32 := fun x hx =>
  buildH_len L x (cutL_mem (by decide) _ _ (Nat.le_refl _) c h x hx)
theorem buildI_nodup {L : List UInt8} (hH : (buildH L).Nodup) : (buildI L).Nodup := by
  rw [buildI, List.Nodup, List.pairwise_map, List.pairwise_iff_getElem]
  intro i j hi hj hij e
  have e2 := nodeT_inj (cutL_sub (List.getElem_mem hi)) (cutL_sub (List.getElem_mem hj)) e
  obtain ⟨h1, h2⟩ := cutL_at (k := 8) (by decide) (buildH L) hi
  obtain ⟨h3, h4⟩ := cutL_at (k := 8) (by decide) (buildH L) hj
  rw [h2, h4] at e2
  have e3 := congrArg List.head? e2
  rw [List.head?_take, List.head?_take, if_neg (by decide), if_neg (by decide), List.head?_drop, List.head?_drop, List.getElem?_eq_getElem h1, List.getElem?_eq_getElem h3] at e3
  have := (List.pairwise_iff_getElem.1 hH) (8 * i) (8 * j) h1 h3 (by omega)
  exact this (Option.some.inj e3)

/-- The files of the law: byte i is i / 64 + c. -/
def foB (c : Int) (j : Nat) : UInt8 := UInt8.ofNat (((j : Int) + c) % 256).toNat
def foL (k : Nat) (c : Int) : List UInt8 := (List.range k).map fun i => foB c (i / 64)
theorem foL_length (k : Nat) (c : Int) : (foL k c).length = k := by rw [foL, List.length_map, List.length_range]
theorem foL_succ (k : Nat) (c : Int) : foL (k + 1) c = foL k c ++ [foB c (k / 64)] := by rw [foL, List.range_succ, List.map_append]; rfl
theorem foL_get (k : Nat) (c : Int) (i : Nat) (h : i < k) : (foL k c)[i]? = some (foB c (i / 64)) := by
  rw [foL, List.getElem?_map, List.getElem?_range h]; rfl
theorem foB_inj {c : Int} {i j : Nat} (h : foB c i = foB c j) (hi : i < 256) (hj : j < 256) : i = j := by
  have := congrArg UInt8.toNat h
  simp only [foB, UInt8.toNat_ofNat'] at this
  omega
theorem foB_wrap (c : Int) (j : Nat) : IntKind.u8.wrap (IntKind.i64.wrap ((j : Int) + c)) = ((foB c j).toNat : Int) := by
  have h : ((foB c j).toNat : Int) = ((j : Int) + c) % 256 := by
    simp only [foB, UInt8.toNat_ofNat']
    omega
  rw [h]
  simp only [IntKind.wrap, IntKind.bits, IntKind.signed]
  simp
  omega
theorem fo_head {k : Nat} {c : Int} {i : Nat} (hi : i < (buildB (foL k c)).length) : 64 * i < k ∧ (buildB (foL k c))[i].data.toList.drop 1 = ((foL k c).drop (64 * i)).take 64 ∧ ((buildB (foL k c))[i].data.toList.drop 1).head? = some (foB c i) := by
  have hi' : i < (cutL 64 (foL k c)).length := by rw [buildB, List.length_map] at hi; exact hi
  obtain ⟨h1, h2⟩ := cutL_at (k := 64) (by decide) (foL k c) hi'
  have e : (buildB (foL k c))[i].data.toList.drop 1 = ((foL k c).drop (64 * i)).take 64 := by
    rw [← h2]
    simp only [buildB, List.getElem_map]
    rfl
  rw [foL_length] at h1
  refine ⟨h1, e, ?_⟩
  rw [e, List.head?_take, if_neg (by decide), List.head?_drop, foL_get _ _ _ h1]
  congr 2
  omega
theorem fo_nodup {k : Nat} (hk : k ≤ 4096) (c : Int) : (buildB (foL k c)).Nodup := by
  rw [List.Nodup, List.pairwise_iff_getElem]
  intro i j hi hj hij e
  obtain ⟨h1, _, h2⟩ := fo_head hi
  obtain ⟨h3, _, h4⟩ := fo_head hj
  rw [e, h4] at h2
  have := foB_inj (Option.some.inj h2) (by omega) (by omega)
  omega
theorem fo_all {k : Nat} (hk : k ≤ 4096) (c : Int) (hA : ApartL (buildB (foL k c))) : buildO (foL k c) = buildB (foL k c) ++ buildI (foL k c) ++ [buildR (foL k c)] :=
  buildO_all _ (fo_nodup hk c) (buildI_nodup (buildH_nodup (fo_nodup hk c) hA))
end Go.Proofs.Ytmhbkilpllgchaa
